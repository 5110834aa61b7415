/- Part 2 of the proof of the law FnTurned: contracts of the functions it reaches. -/
import Derived.Test.YtmheflciiodhdaaKFnTurnedw22
import Derived.Test.YtmheflciiodhdaaKFnTurnedx1
-- Written by wip/tools/mkprint.py of this repo, over the kit's print, out of the translation; Lean checks it.
namespace Go.Proofs.Ytmheflciiodhdaa.P
open Go.RowKit Go.Proofs.YtmheflciiodhdaaW.PrintWords Go.Proofs.YtmheflciiodhdaaW.PrintLast Go.Proofs.YtmheflciiodhdaaW.PrintMore
attribute [local go_sem] max2_int min2_int max_two min_two max_three min_three max_four min_four   -- for this text's walks alone
set_option linter.unusedVariables false
set_option linter.unusedSimpArgs false
/-! ### impl_Walker_visits: function 104 -/
def impl_Walker_visits.l0 : Nat → Int → List Int → Int → Int → Int → Int → Int → Int → Int → Int → Option (List Int)
  | 0, _, _, _, _, _, _, _, _, _, _ => none
  | k + 1, x1, x5, x11, x12, x234000, x234001, x234002, x234003, x234004, x234005 => if x12 < x11 then (if x1 = 0 then (none) else (if 0 ≤ (Int.tmod (wrap64 ((wrap64 (x234002)) + (wrap64 (x12 * (wrap64 (x234003)))))) x1) then (if (Int.tmod (wrap64 ((wrap64 (x234002)) + (wrap64 (x12 * (wrap64 (x234003)))))) x1) < (x5.length : Int) then (impl_Walker_visits.l0 k x1 (x5.set ((Int.tmod (wrap64 ((wrap64 (x234002)) + (wrap64 (x12 * (wrap64 (x234003)))))) x1) : Int).toNat (wrap64 ((rd x5 (Int.tmod (wrap64 ((wrap64 (x234002)) + (wrap64 (x12 * (wrap64 (x234003)))))) x1)) + 1))) x11 (wrap64 (x12 + 1)) x234000 x234001 x234002 x234003 x234004 x234005) else (none)) else (none))) else (some x5)
def impl_Walker_visits.f (k : Nat) (a0_0 : Int) (a0_1 : Int) (a0_2 : Int) (a0_3 : Int) (a0_4 : Int) (a0_5 : Int) (a1 : Int) : Option (List Int) := if 0 ≤ a1 then (if (a1 : Int).toNat ≤ 35184372088832 then (impl_Walker_visits.l0 k a1 (List.replicate (a1 : Int).toNat 0) (wrap64 (a0_4)) 0 a0_0 a0_1 a0_2 a0_3 a0_4 a0_5) else (none)) else (none)
theorem impl_Walker_visits.mono_l : ∀ k, (∀ y0 y1 y2 y3 y4 y5 y6 y7 y8 y9, LeO (impl_Walker_visits.l0 k y0 y1 y2 y3 y4 y5 y6 y7 y8 y9) (impl_Walker_visits.l0 (k + 1) y0 y1 y2 y3 y4 y5 y6 y7 y8 y9))
  | 0 => fun _ _ _ _ _ _ _ _ _ _ r h => by simp [impl_Walker_visits.l0] at h
  | k + 1 => by
    have ih0 := impl_Walker_visits.mono_l k
    · intro y0 y1 y2 y3 y4 y5 y6 y7 y8 y9
      unfold impl_Walker_visits.l0
      repeat' first
      | (with_reducible exact ih0 _ _ _ _ _ _ _ _ _ _)
      | (with_reducible exact LeO.refl _)
      | (with_reducible exact LeO.none _)
      | (with_reducible refine LeO.ite ?_ ?_)
      | (with_reducible refine LeO.bind ?_ (fun _ => ?_))
      | exact ih0 _ _ _ _ _ _ _ _ _ _
      | exact LeO.none _
      | refine LeO.ite ?_ ?_
      | refine LeO.bind ?_ (fun _ => ?_)
theorem impl_Walker_visits.mono : ∀ a0 a1 a2 a3 a4 a5 a6 k, LeO (impl_Walker_visits.f k a0 a1 a2 a3 a4 a5 a6) (impl_Walker_visits.f (k + 1) a0 a1 a2 a3 a4 a5 a6) := by
  intro a0 a1 a2 a3 a4 a5 a6 k
  have ih0 := impl_Walker_visits.mono_l k
  unfold impl_Walker_visits.f
  repeat' first
      | (with_reducible exact ih0 _ _ _ _ _ _ _ _ _ _)
      | (with_reducible exact LeO.refl _)
      | (with_reducible exact LeO.none _)
      | (with_reducible refine LeO.ite ?_ ?_)
      | (with_reducible refine LeO.bind ?_ (fun _ => ?_))
      | exact ih0 _ _ _ _ _ _ _ _ _ _
      | exact LeO.none _
      | refine LeO.ite ?_ ?_
      | refine LeO.bind ?_ (fun _ => ?_)
set_option maxHeartbeats 8000000 in
set_option maxRecDepth 100000 in
theorem impl_Walker_visits.calls (k : Nat) (a0_0 : Int) (a0_1 : Int) (a0_2 : Int) (a0_3 : Int) (a0_4 : Int) (a0_5 : Int) (a1 : Int) (r : List Int) (w : World) (h : impl_Walker_visits.f k a0_0 a0_1 a0_2 a0_3 a0_4 a0_5 a1 = some r) :
    Calls Try.prog 104 #[.agg #[.int .i16 a0_0, .int .i16 a0_1, .int .i16 a0_2, .int .i16 a0_3, .int .i16 a0_4, .int .i8 a0_5], .int .i64 a1] w fun e w' => ∃ v0_ : Value, e = .returned (v0_) ∧ Kd.R (Kd.int .i64) 2 w' w.heap.size (fun _ => True) v0_ r ∧ Below w.heap.size w w' := by
  have hu38 := Try.underlying38
  have HB := Aside0.mk (Below.refl w.heap.size w)
  have H : (if 0 ≤ a1 then (if (a1 : Int).toNat ≤ 35184372088832 then (impl_Walker_visits.l0 k a1 (List.replicate (a1 : Int).toNat 0) (wrap64 (a0_4)) 0 a0_0 a0_1 a0_2 a0_3 a0_4 a0_5) else (none)) else (none)) = some r := h
  clear h
  by_cases c3 : 0 ≤ a1
  · rw [if_pos c3] at H
    have c3b0 := eq_true c3
    have c3b1 : decide (0 ≤ a1) = true := decide_eq_true c3
    clear c3
    by_cases c4 : (a1 : Int).toNat ≤ 35184372088832
    · rw [if_pos c4] at H
      have c4b0 := eq_true c4
      have c4b1 : decide ((a1 : Int).toNat ≤ 35184372088832) = true := decide_eq_true c4
      clear c4
      obtain ⟨y234, hy234⟩ : ∃ y_ : List Int, y_ = (List.replicate (a1 : Int).toNat 0) := ⟨_, rfl⟩
      replace H : (impl_Walker_visits.l0 k a1 y234 (wrap64 (a0_4)) 0 a0_0 a0_1 a0_2 a0_3 a0_4 a0_5) = some r := by first | (rw [hy234]; with_reducible exact H) | (have H2_ := (Option.bind_some _ _).symm.trans H; rw [hy234]; with_reducible exact H2_) | (have H2_ := (Option.bind_some _ _).symm.trans H; with_reducible exact H2_) | with_reducible exact H | (rw [hy234]; exact H) | exact H
      have Ny234 := Aside0.mk hy234
      clear hy234
      have H' := Aside0.mk H
      clear H
      go_enter Try.func104, Try.ntmps104
      go_wp2_with (first | ((with_reducible refine gate_dst (N := 2) rfl ?_); refine box_event ?hg (N := 2) ?hd (cs := #[.int .i16 a0_0, .int .i16 a0_1, .int .i16 a0_2, .int .i16 a0_3, .int .i16 a0_4, .int .i8 a0_5]) (t := 38) ?hr ?_; (case hd => rfl); (case hg => rfl); (case hr => first | (go_simp; done) | (go_simp; rfl)); intro gb233 hg w5 hbox hb; have n0_ := Aside0.mk (below_step (by repeat (first | (with_reducible first | exact HB.out | apply below_alloc | apply pw_below_drewN | apply below_drew1) | exact HB.out)) hb); have n1_ := Aside0.mk (hbox); have n2_ := Aside0.mk ((by rw [hg]; exact (below_size (by repeat (first | (with_reducible first | exact HB.out | apply below_alloc | apply pw_below_drewN | apply below_drew1) | exact HB.out))) : w.heap.size ≤ gb233)); have n3_ := Aside0.mk ((by rw [hg]; exact (below_size (by repeat (first | (with_reducible first | exact HB.out | apply below_alloc | apply pw_below_drewN | apply below_drew1) | exact HB.out))) : w.heap.size ≤ gb233)); clear HB; have HB := n0_; have BK233 := n1_; have GW233 := n2_; have GE233 := n3_; clear n0_ n1_ n2_ n3_; clear hb hbox hg) | ((with_reducible refine gate_dst (N := 8) rfl ?_); refine Kd.R_make (Kd.int .i64) _ 2 rfl (N := 8) rfl 47 _ _ rfl a1 rfl rfl Try.underlying47 (.int .i64 0) 8 info2 rfl (by decide) (by omega) 0 (ok := fun _ => True) (okp := fun _ => True) rfl (fun _ hk => hk) trivial (of_decide_eq_true (by first | (with_reducible assumption) | assumption)) (Nat.le_trans (Nat.mul_le_mul_right _ (of_decide_eq_true (by first | (with_reducible assumption) | assumption) : a1.toNat ≤ 35184372088832)) (by omega)) (Below.refl _ _) (Nat.le_refl _) ?_; intro v235 w6 ho7 hb hg_ hnew_; clear hg_ hnew_; (first | rw [← Ny234.out] at ho7 | (simp only [Int.reduceToNat] at ho7; rw [← Ny234.out] at ho7)); have n0_ := Aside0.mk (Kd.R_lower ho7 (below_size (by repeat (first | (with_reducible first | exact HB.out | apply below_alloc | apply pw_below_drewN | apply below_drew1 | refine below_set ?_ GE233.out) | exact HB.out)))); have n1_ := Aside0.mk (blk_below (g := gb233) (o := .cells #[.int .i16 a0_0, .int .i16 a0_1, .int .i16 a0_2, .int .i16 a0_3, .int .i16 a0_4, .int .i8 a0_5] 38 (0, 0)) (by (with_reducible repeat (first | refine blk_drewN ?_ _ | refine blk_drew ?_ | refine blk_alloc ?_ _)); exact BK233.out) hb); have n2_ := Aside0.mk (below_step (by repeat (first | (with_reducible first | exact HB.out | apply below_alloc | apply pw_below_drewN | apply below_drew1 | refine below_set ?_ GE233.out) | exact HB.out)) hb); clear BK233; clear HB; have HO236 := n0_; have BK233 := n1_; have HB := n2_; clear n0_ n1_ n2_; clear hb ho7; have hcz8_0 : w6.cell? ⟨gb233, 0, none⟩ = some (.int .i16 a0_0) := (blk_cell BK233.out 0).trans rfl; have hcz8_1 : w6.cell? ⟨gb233, 1, none⟩ = some (.int .i16 a0_1) := (blk_cell BK233.out 1).trans rfl; have hcz8_2 : w6.cell? ⟨gb233, 2, none⟩ = some (.int .i16 a0_2) := (blk_cell BK233.out 2).trans rfl; have hcz8_3 : w6.cell? ⟨gb233, 3, none⟩ = some (.int .i16 a0_3) := (blk_cell BK233.out 3).trans rfl; have hcz8_4 : w6.cell? ⟨gb233, 4, none⟩ = some (.int .i16 a0_4) := (blk_cell BK233.out 4).trans rfl; have hcz8_5 : w6.cell? ⟨gb233, 5, none⟩ = some (.int .i8 a0_5) := (blk_cell BK233.out 5).trans rfl; have hfz8_0 := blk_frozen BK233.out 0; have hfz8_1 := blk_frozen BK233.out 1; have hfz8_2 := blk_frozen BK233.out 2; have hfz8_3 := blk_frozen BK233.out 3; have hfz8_4 := blk_frozen BK233.out 4; have hfz8_5 := blk_frozen BK233.out 5))
      go_loopg [12] k (fun kq v12 w' => ∃ (x5_1 : List Int) (x12_1 : Int), v12 = .int .i64 x12_1 ∧ Aside0 (impl_Walker_visits.l0 kq a1 x5_1 (wrap64 (a0_4)) x12_1 a0_0 a0_1 a0_2 a0_3 a0_4 a0_5 = some r) ∧ Aside0 (kq ≤ k) ∧ Aside0 (Kd.R (Kd.int .i64) 2 w' w.heap.size (fun _ => True) v235 x5_1) ∧ Aside0 (w'.heap[gb233]? = some (.cells #[.int .i16 a0_0, .int .i16 a0_1, .int .i16 a0_2, .int .i16 a0_3, .int .i16 a0_4, .int .i8 a0_5] 38 (0, 0))) ∧ Aside0 (Below w.heap.size w w'))
      case atStart => exact ⟨(y234), (0), (by first | rfl | (simp; done) | (simp [*]; done)), H', ⟨Nat.le_refl _⟩, ⟨by (with_reducible repeat (first | apply Kd.R_alloc | apply Kd.R_drewN | apply Kd.R_drew)); exact HO236.out⟩, ⟨by (with_reducible repeat (first | refine blk_drewN ?_ _ | refine blk_drew ?_ | refine blk_alloc ?_ _)); exact BK233.out⟩, ⟨by repeat (first | (with_reducible first | exact HB.out | apply below_alloc | apply pw_below_drewN | apply below_drew1 | refine below_set ?_ GE233.out) | exact HB.out)⟩⟩
      case round =>
        clear H'
        try clear c1
        try clear p2
        try clear c3
        try clear c3b0
        try clear c3b1
        try clear c4
        try clear c4b0
        try clear c4b1
        try clear p6
        try clear hcz8_0
        try clear hcz8_1
        try clear hcz8_2
        try clear hcz8_3
        try clear hcz8_4
        try clear hcz8_5
        try clear hfz8_0
        try clear hfz8_1
        try clear hfz8_2
        try clear hfz8_3
        try clear hfz8_4
        try clear hfz8_5
        obtain ⟨x5_1, x12_1, rfl, HA, HK1, HO_5, BK233, HB⟩ := hrel
        cases gk with
        | zero => exact absurd HA.out (by simp [impl_Walker_visits.l0])
        | succ k1 =>
          have H := HA.out
          clear HA
          simp only [impl_Walker_visits.l0] at H
          by_cases c9 : x12_1 < (wrap64 (a0_4))
          · rw [if_pos c9] at H
            have c9b0 : decide (x12_1 < (wrap64 (a0_4))) = true := decide_eq_true c9
            clear c9
            by_cases c10 : a1 = 0
            · rw [if_pos c10] at H
              exact absurd H (by simp)
            · rw [if_neg c10] at H
              have c10b0 : (a1 == 0) = false := beq_eq_false_iff_ne.mpr c10
              have c10b1 : (a1 != 0) = true := bne_iff_ne.mpr c10
              obtain ⟨ji11, hji11⟩ : ∃ j_ : Int, (Int.tmod (wrap64 ((wrap64 (a0_2)) + (wrap64 (x12_1 * (wrap64 (a0_3)))))) a1) = j_ := ⟨_, rfl⟩
              replace H : (if 0 ≤ (ji11) then (if (ji11) < (x5_1.length : Int) then (impl_Walker_visits.l0 k1 a1 (x5_1.set ((ji11) : Int).toNat (wrap64 ((rd x5_1 (ji11)) + 1))) (wrap64 (a0_4)) (wrap64 (x12_1 + 1)) a0_0 a0_1 a0_2 a0_3 a0_4 a0_5) else (none)) else (none)) = some r := by first | (rw [hji11] at H; exact H) | (simp only [hji11] at H ⊢; exact H)
              by_cases c12 : 0 ≤ (ji11)
              · rw [if_pos c12] at H
                have c12b0 : decide (0 ≤ (ji11)) = true := decide_eq_true c12
                clear c12
                by_cases c13 : (ji11) < (x5_1.length : Int)
                · rw [if_pos c13] at H
                  have c13b0 : decide ((ji11) < (x5_1.length : Int)) = true := decide_eq_true c13
                  clear c13
                  obtain ⟨y238, hy238⟩ : ∃ y_ : List Int, y_ = (x5_1.set ((ji11) : Int).toNat (wrap64 ((rd x5_1 (ji11)) + 1))) := ⟨_, rfl⟩
                  replace H : (impl_Walker_visits.l0 k1 a1 y238 (wrap64 (a0_4)) (wrap64 (x12_1 + 1)) a0_0 a0_1 a0_2 a0_3 a0_4 a0_5) = some r := by first | (rw [hy238]; with_reducible exact H) | (have H2_ := (Option.bind_some _ _).symm.trans H; rw [hy238]; with_reducible exact H2_) | (have H2_ := (Option.bind_some _ _).symm.trans H; with_reducible exact H2_) | with_reducible exact H | (rw [hy238]; exact H) | exact H
                  have Ny238 := Aside0.mk hy238
                  clear hy238
                  have H' := Aside0.mk H
                  clear H
                  have hcz15_0 : wr.cell? ⟨gb233, 0, none⟩ = some (.int .i16 a0_0) := (blk_cell BK233.out 0).trans rfl
                  have hcz15_1 : wr.cell? ⟨gb233, 1, none⟩ = some (.int .i16 a0_1) := (blk_cell BK233.out 1).trans rfl
                  have hcz15_2 : wr.cell? ⟨gb233, 2, none⟩ = some (.int .i16 a0_2) := (blk_cell BK233.out 2).trans rfl
                  have hcz15_3 : wr.cell? ⟨gb233, 3, none⟩ = some (.int .i16 a0_3) := (blk_cell BK233.out 3).trans rfl
                  have hcz15_4 : wr.cell? ⟨gb233, 4, none⟩ = some (.int .i16 a0_4) := (blk_cell BK233.out 4).trans rfl
                  have hcz15_5 : wr.cell? ⟨gb233, 5, none⟩ = some (.int .i8 a0_5) := (blk_cell BK233.out 5).trans rfl
                  have hfz15_0 := blk_frozen BK233.out 0
                  have hfz15_1 := blk_frozen BK233.out 1
                  have hfz15_2 := blk_frozen BK233.out 2
                  have hfz15_3 := blk_frozen BK233.out 3
                  have hfz15_4 := blk_frozen BK233.out 4
                  have hfz15_5 := blk_frozen BK233.out 5
                  obtain ⟨Ao16, co16, eo16⟩ := Kd.R_slice HO_5.out
                  subst eo16
                  have p237 : 0 ≤ ((ji11) : Int) := of_decide_eq_true (by first | (with_reducible assumption) | assumption)
                  have q237 : (ji11) < (x5_1.length : Int) := of_decide_eq_true (by first | (with_reducible assumption) | assumption)
                  obtain ⟨ad237, e237, hx237_0⟩ := Kd.at_int (Kd.R_reads' HO_5.out).2.2 (ji11) p237 q237
                  cases e237
                  replace p237 := eq_true p237
                  replace q237 := eq_true q237
                  have p14 : 0 ≤ ((ji11) : Int) := of_decide_eq_true (by first | (with_reducible assumption) | assumption)
                  have q14 : ((ji11) : Int) < ((x5_1.length : Int) : Int) := of_decide_eq_true (by first | (with_reducible assumption) | assumption)
                  obtain ⟨go14, co14, eo14, gb14, gl14, cl14, HG14⟩ := Kd.R_form HO_5.out (by omega)
                  (first | cases eo14 | (injection eo14 with ea_ en_ ec_; (first | subst ea_ | (injection ea_ with ea_; subst ea_)); subst ec_; clear en_))
                  have GB14 := Aside0.mk gb14
                  have GG14 := Aside0.mk HG14
                  clear gb14 gl14 HG14
                  (first | simp only [add_plain] at hx237_0 | skip)
                  obtain ⟨hx14_0, hf14_0⟩ := Kd.R_celln 0 HO_5.out ((ji11) : Int) p14 q14
                  replace p14 := eq_true p14
                  replace q14 := eq_true q14
                  have HP17 := Kd.R_putg HO_5.out ((ji11) : Int) (wrap64 ((rd x5_1 (ji11)) + 1))
                  go_wp2_with (first | ((with_reducible refine gate_store (t := 2) (p := 30) rfl ?_); refine store_event (t := 2) (p := 30) (v := ?vo_w18) (w1 := (wr.setCell ⟨go14, ((ji11) : Int).toNat, none⟩ (.int .i64 (wrap64 ((rd x5_1 (ji11)) + 1))))) ?hg ?ho ?hn ?hr ?_; (case ho => rfl); (case hg => rfl); (case hn => rfl); (case hr => first | (go_simp; done) | (go_simp; rfl)); intro w18 hw; have hg : wr.grownBy w18 (some go14) := (by rw [hw]; exact HP17.2); have hp_ : Kd.R (Kd.int .i64) 2 w18 w.heap.size (fun _ => True) (.slice (some ⟨go14, 0, none⟩) x5_1.length co16) y238 := (by rw [hw, Ny238.out]; exact HP17.1); clear HP17; have n0_ := Aside0.mk (hp_); have n1_ := Aside0.mk (blk_grown (g := gb233) (o := .cells #[.int .i16 a0_0, .int .i16 a0_1, .int .i16 a0_2, .int .i16 a0_3, .int .i16 a0_4, .int .i8 a0_5] 38 (0, 0)) (by (with_reducible repeat (first | refine blk_drewN ?_ _ | refine blk_drew ?_ | refine blk_alloc ?_ _)); exact BK233.out) hg (Kd.R_ne HO_5.out BK233.out (by decide))); have n2_ := Aside0.mk ((by rw [hw]; exact below_set (HB.out) GB14.out : Below w.heap.size w w18)); clear HO_5; clear BK233; clear HB; have HO_5 := n0_; have BK233 := n1_; have HB := n2_; clear n0_ n1_ n2_; clear hg hw hp_))
                  go_roundg k1
                  case measure => have := HK1.out; omega
                  case rel => exact ⟨(y238), (wrap64 (x12_1 + 1)), (by first | rfl | (simp; done) | (simp [*]; done)), H', ⟨by have := HK1.out; omega⟩, ⟨by (with_reducible repeat (first | apply Kd.R_alloc | apply Kd.R_drewN | apply Kd.R_drew)); exact HO_5.out⟩, ⟨by (with_reducible repeat (first | refine blk_drewN ?_ _ | refine blk_drew ?_ | refine blk_alloc ?_ _)); exact BK233.out⟩, ⟨by repeat (first | (with_reducible first | exact HB.out | apply below_alloc | apply pw_below_drewN | apply below_drew1 | refine below_set ?_ GE233.out) | exact HB.out)⟩⟩
                · rw [if_neg c13] at H
                  exact absurd H (by simp)
              · rw [if_neg c12] at H
                exact absurd H (by simp)
          · rw [if_neg c9] at H
            have c9b0 : decide (x12_1 < (wrap64 (a0_4))) = false := decide_eq_false c9
            clear c9
            obtain rfl := Option.some.inj H
            go_wp2
            go_ret
            exact ⟨_, by first | rfl | (simp [errW_none, errW_some] <;> rfl) | (simp [*, errW_none, errW_some] <;> rfl), by (with_reducible repeat (first | apply Kd.R_alloc | apply Kd.R_drewN | apply Kd.R_drew)); exact HO_5.out, by repeat (first | (with_reducible first | exact HB.out | apply below_alloc | apply pw_below_drewN | apply below_drew1 | refine below_set ?_ GE233.out) | exact HB.out)⟩
    · rw [if_neg c4] at H
      exact absurd H (by simp)
  · rw [if_neg c3] at H
    exact absurd H (by simp)
end Go.Proofs.Ytmheflciiodhdaa.P
-- Written by wip/tools/mkprint.py of this repo, over the kit's print, out of the translation; Lean checks it.
namespace Go.Proofs.Ytmheflciiodhdaa.P
open Go.RowKit Go.Proofs.YtmheflciiodhdaaW.PrintWords Go.Proofs.YtmheflciiodhdaaW.PrintLast Go.Proofs.YtmheflciiodhdaaW.PrintMore
attribute [local go_sem] max2_int min2_int max_two min_two max_three min_three max_four min_four   -- for this text's walks alone
set_option linter.unusedVariables false
set_option linter.unusedSimpArgs false
/-! ### impl_Walker_98: given -/
def encW (x : S38) : Value := .agg #[.int .i16 x.f0, .int .i16 x.f1, .int .i16 x.f2, .int .i16 x.f3, .int .i16 x.f4, .int .i8 x.f5]
/-- A closure that tells p of a walker, in every later world. -/
structure PredW (fid : Nat) (lb : Array Value) (p : S38 → Bool) (w : World) : Prop where
  eg : ∀ args w, (callFunc fid args).run Try.prog w = .ok (.enter fid args) w
  at_ : ∀ W, Below w.heap.size w W → ∀ x : S38, Calls Try.prog fid (#[encW x] ++ lb) W fun e w' => e = .returned (.bool (p x)) ∧ Below W.heap.size W w'
def idxW (p : S38 → Bool) : List S38 → Int → Int
  | [], _ => -1
  | x :: r, i => if p x then i else idxW p r (i + 1)
theorem idxW_ge (p : S38 → Bool) : ∀ (xs : List S38) (i : Int), 0 ≤ i → decide (0 ≤ idxW p xs i) = xs.any p
  | [], i, _ => by simp [idxW]
  | x :: r, i, h => by
    have ih := idxW_ge p r (i + 1) (by omega)
    cases hp : p x <;> simp [idxW, hp, h] <;> simpa using ih
theorem drop_rdW {xs : List S38} {k : Nat} (h : k < xs.length) : xs.drop k = rd_T38 xs (k : Int) :: xs.drop (k + 1) := by
  rw [List.drop_eq_getElem_cons h]; simp [rd_T38, h]
set_option maxHeartbeats 4000000 in
theorem indexFunc_W (fid : Nat) (lb : Array Value) (p : S38 → Bool) (A : Option Addr) (c : Nat) (xs : List S38) (w : World)
    (hx : Kd.C k38 w A xs.length xs) (hp : PredW fid lb p w) :
    Calls Try.prog 116 #[.slice A xs.length c, .func (.func fid) #[] lb] w fun e w' => e = .returned (.int .i64 (idxW p xs 0)) ∧ Below w.heap.size w w' := by
  have HR := Aside0.mk hx
  have hn := Kd.C_max hx
  have HP := Aside0.mk hp
  have eg := hp.eg
  have hu := Try.underlying38
  clear hx hp
  go_enter Try.func116, Try.ntmps116
  go_wp2
  go_loopw [5, 8] (fun v5 v8 w' => ∃ k : Nat, k ≤ xs.length ∧ v8 = .int .i64 k ∧ Aside0 (idxW p (xs.drop k) k = idxW p xs 0) ∧ Aside0 (Below w.heap.size w w')) (fun _ v8 _ => xs.length - (intOf v8).toNat)
  case atStart => exact ⟨0, Nat.zero_le _, rfl, ⟨by simp⟩, ⟨Below.refl _ _⟩⟩
  case round =>
    obtain ⟨k, hk, rfl, hi, hb⟩ := hrel
    by_cases hlt : k < xs.length
    · obtain ⟨ad, rfl, h0, h1, h2, h3, h4, h5⟩ := at_T38 (Kd.C_below HR.out hb.out) (k : Int) (by omega) (by omega)
      simp only [Int.toNat_natCast] at h0 h1 h2 h3 h4 h5
      have HPK := Aside0.mk (HP.out.at_ wr hb.out (rd_T38 xs (k : Int)))
      have HI : Aside0 ((if p (rd_T38 xs (k : Int)) then (k : Int) else idxW p (xs.drop (k + 1)) (k + 1)) = idxW p xs 0) := ⟨by have := hi.out; rw [drop_rdW hlt] at this; exact this⟩
      clear hi
      cases hpv : p (rd_T38 xs (k : Int)) with
      | true =>
        rw [hpv] at HPK HI
        clear hpv
        go_wp2_with (go_at_fn fid; refine HPK.out.mono ?_; rintro e w' ⟨rfl, hb2⟩; have HB2 := Aside0.mk hb2; clear hb2)
        go_ret
        exact ⟨by rw [← HI.out]; rfl, below_step hb.out HB2.out⟩
      | false =>
        rw [hpv] at HPK HI
        clear hpv
        go_wp2_with (go_at_fn fid; refine HPK.out.mono ?_; rintro e w' ⟨rfl, hb2⟩; have HB2 := Aside0.mk hb2; clear hb2)
        go_roundw
        case rel => exact ⟨k + 1, by omega, by go_num, ⟨by have := HI.out; simpa using this⟩, ⟨below_step hb.out HB2.out⟩⟩
        case measure => simp [intOf]; omega
    · have hke : k = xs.length := by omega
      go_wp2
      go_ret
      exact ⟨by have := hi.out; subst hke; rw [List.drop_length] at this; rw [← this]; rfl, hb.out⟩
set_option maxHeartbeats 1000000 in
theorem containsFunc_W (fid : Nat) (lb : Array Value) (p : S38 → Bool) (A : Option Addr) (c : Nat) (xs : List S38) (w : World)
    (hx : Kd.C k38 w A xs.length xs) (hp : PredW fid lb p w) :
    Calls Try.prog 98 #[.slice A xs.length c, .func (.func fid) #[] lb] w fun e w' => e = .returned (.bool (xs.any p)) ∧ Below w.heap.size w w' := by
  have HR := Aside0.mk hx
  have HP := Aside0.mk hp
  clear hx hp
  go_enter Try.func98, Try.ntmps98
  go_wp2_with (go_at_call 116; refine (indexFunc_W fid lb p A c xs _ HR.out HP.out).mono ?_; rintro e w' ⟨rfl, hb⟩; have HB := Aside0.mk hb; clear hb)
  go_ret
  exact ⟨by rw [← idxW_ge p xs 0 (by omega)]; rfl, HB.out⟩
end Go.Proofs.Ytmheflciiodhdaa.P
-- Written by wip/tools/mkprint.py of this repo, over the kit's print, out of the translation; Lean checks it.
namespace Go.Proofs.Ytmheflciiodhdaa.P
open Go.RowKit Go.Proofs.YtmheflciiodhdaaW.PrintWords Go.Proofs.YtmheflciiodhdaaW.PrintLast Go.Proofs.YtmheflciiodhdaaW.PrintMore
attribute [local go_sem] max2_int min2_int max_two min_two max_three min_three max_four min_four   -- for this text's walks alone
set_option linter.unusedVariables false
set_option linter.unusedSimpArgs false
/-! ### impl_eighths: function 101 -/
def impl_eighths.f (a0 : Int) : Option (Int) := some ((Int.tmod (wrap64 ((Int.tmod a0 8) + 8)) 8) % 256)
set_option maxHeartbeats 8000000 in
set_option maxRecDepth 100000 in
theorem impl_eighths.calls (a0 : Int) (r : Int) (w : World) (h : impl_eighths.f a0 = some r) :
    Calls Try.prog 101 #[.int .i64 a0] w fun e w' => e = .returned (.int .u8 r) ∧ Drawn0 w w' := by
  have H : (some ((Int.tmod (wrap64 ((Int.tmod a0 8) + 8)) 8) % 256)) = some r := h
  clear h
  obtain rfl := Option.some.inj H
  go_enter Try.func101, Try.ntmps101
  go_wp2
  go_ret
  exact ⟨by first | rfl | (simp; done) | (simp [*]; done), by repeat (first | exact Drawn0.refl _ | apply Drawn0.step)⟩
end Go.Proofs.Ytmheflciiodhdaa.P
-- Written by wip/tools/mkprint.py of this repo, over the kit's print, out of the translation; Lean checks it.
namespace Go.Proofs.Ytmheflciiodhdaa.P
open Go.RowKit Go.Proofs.YtmheflciiodhdaaW.PrintWords Go.Proofs.YtmheflciiodhdaaW.PrintLast Go.Proofs.YtmheflciiodhdaaW.PrintMore
attribute [local go_sem] max2_int min2_int max_two min_two max_three min_three max_four min_four   -- for this text's walks alone
set_option linter.unusedVariables false
set_option linter.unusedSimpArgs false
/-! ### impl_walked: given -/
/-- A closure that tells f of each of some walkers, in every later world. -/
structure CntW (fid : Nat) (lb : Array Value) (f : S38 → Int) (xs : List S38) (w : World) : Prop where
  eg : ∀ args w, (callFunc fid args).run Try.prog w = .ok (.enter fid args) w
  at_ : ∀ W, Below w.heap.size w W → ∀ x ∈ xs, Calls Try.prog fid (#[encW x] ++ lb) W fun e w' => e = .returned (.int .i64 (f x)) ∧ Below W.heap.size W w'
def addVis (n turn : Int) (sums vs : List Int) : List Int := List.zipWith (fun s v => wrap64 (s + wrap64 (wrap64 (n * v) * wrap64 turn))) sums vs
def walkSums (k : Nat) (len : Int) (f : S38 → Int) : List S38 → List Int → Option (List Int)
  | [], S => some S
  | x :: r, S => (impl_Walker_visits.f k x.f0 x.f1 x.f2 x.f3 x.f4 x.f5 len).bind fun vs => if vs.length = S.length then walkSums k len f r (addVis (f x) x.f5 S vs) else none
def eighth (z : Int) : Int := (Int.tmod (wrap64 ((Int.tmod z 8) + 8)) 8) % 256
def walkedF (k : Nat) (r : List Int) (list : List S38) (f : S38 → Int) : Option (List Int) :=
  (walkSums k (r.length : Int) f list (List.replicate r.length 0)).bind fun S => if S.length = r.length ∧ r.length ≤ 35184372088832 then some (List.zipWith (fun x s => eighth (wrap64 (wrap64 x + s))) r S) else none
theorem walkSums_cons {k : Nat} {len : Int} {f : S38 → Int} {x : S38} {r : List S38} {S Sf : List Int} (h : walkSums k len f (x :: r) S = some Sf) :
    ∃ vs, impl_Walker_visits.f k x.f0 x.f1 x.f2 x.f3 x.f4 x.f5 len = some vs ∧ vs.length = S.length ∧ walkSums k len f r (addVis (f x) x.f5 S vs) = some Sf := by
  unfold walkSums at h
  obtain ⟨vs, h1, h2⟩ := Option.bind_eq_some_iff.mp h
  by_cases hh : vs.length = S.length
  · rw [if_pos hh] at h2; exact ⟨vs, h1, hh, h2⟩
  · rw [if_neg hh] at h2; cases h2
theorem addVis_len {n turn : Int} {S vs : List Int} (h : vs.length = S.length) : (addVis n turn S vs).length = S.length := by simp [addVis, h]
theorem walkSums_mono {len : Int} {f : S38 → Int} : ∀ (l : List S38) (S : List Int) (k : Nat), LeO (walkSums k len f l S) (walkSums (k + 1) len f l S)
  | [], S, k => LeO.refl _
  | x :: r, S, k => by
    unfold walkSums
    exact LeO.bind (impl_Walker_visits.mono _ _ _ _ _ _ _ k) (fun vs => LeO.ite (walkSums_mono r _ k) (LeO.none _))
theorem walkedF_mono {r : List Int} {l : List S38} {f : S38 → Int} (k : Nat) : LeO (walkedF k r l f) (walkedF (k + 1) r l f) :=
  LeO.bind (walkSums_mono l _ k) (fun _ => LeO.refl _)
set_option maxHeartbeats 8000000 in
set_option maxRecDepth 100000 in
theorem walked_calls (k : Nat) (A0 : Option Addr) (c0 : Nat) (l0 : List Int) (A1 : Option Addr) (c1 : Nat) (l1 : List S38) (fid : Nat) (lb : Array Value) (f : S38 → Int) (r : List Int) (w : World)
    (hr0 : Kd.C (Kd.int .u8) w A0 l0.length l0) (hr1 : Kd.C k38 w A1 l1.length l1) (hp : CntW fid lb f l1 w) (h : walkedF k l0 l1 f = some r) :
    Calls Try.prog 70 #[.slice A0 l0.length c0, .slice A1 l1.length c1, .func (.func fid) #[] lb] w fun e w' => ∃ v0_ : Value, e = .returned (v0_) ∧ Kd.R (Kd.int .u8) 5 w' w.heap.size (fun _ => True) v0_ r ∧ Below w.heap.size w w' := by
  obtain ⟨Sf, hS, h1⟩ := Option.bind_eq_some_iff.mp h
  clear h
  have hl : Sf.length = l0.length ∧ l0.length ≤ 35184372088832 := by
    by_cases hh : Sf.length = l0.length ∧ l0.length ≤ 35184372088832
    · exact hh
    · simp [hh] at h1
  rw [if_pos hl] at h1
  obtain rfl := Option.some.inj h1
  have HR0 := Aside0.mk hr0
  have HR1 := Aside0.mk hr1
  have HM1 := Kd.C_max hr1
  have HL := Aside0.mk hl
  have HS := Aside0.mk hS
  have HP := Aside0.mk hp
  have eg := hp.eg
  have hu := Try.underlying38
  clear hr0 hr1 h1 hl hS hp
  go_enter Try.func70, Try.ntmps70
  go_wp2_with (first
      | ((with_reducible refine gate_dst (N := 18) rfl ?_); refine Kd.R_make (Kd.int .i64) (w0 := w) w.heap.size 2 rfl (N := 18) rfl 47 _ _ rfl (l0.length : Int) rfl rfl Try.underlying47 (.int .i64 0) 8 info2 rfl (by decide) (by omega) 0 (ok := fun _ => True) (okp := fun _ => True) rfl (fun _ hk => hk) trivial (by omega) (by have := HL.out.2; simp; omega) (Below.refl _ _) (Nat.le_refl _) ?_; intro v18 w18 ho18 hb18 _ _; have HO18 := Aside0.mk ho18; have HB18 := Aside0.mk hb18; clear ho18 hb18)
      | ((with_reducible refine gate_dst (N := 19) rfl ?_); refine Kd.R_lit (Kd.int .u8) (w0 := w) w.heap.size 5 rfl (N := 19) rfl (xs := ([] : List Int)) (inner := []) (ok := fun _ => True) (okp := fun _ => True) ?hr (Reps.none _ _) (fun _ hk => hk) trivial HB18.out HB18.out.size (by simp) ?_; (case hr => first | (go_simp; done) | (go_simp; rfl)); intro v19 w19 ho19 hb19 hg19 _; have HO19 := Aside0.mk ho19; have HO18' := Aside0.mk (Kd.R_grown (row := none) HO18.out hg19 (fun _ _ => by simp)); have HB19 := Aside0.mk hb19; clear ho19 hb19 hg19 HO18 HB18))
  have HO18 : Aside0 (Kd.R (Kd.int .i64) 2 w19 w.heap.size (fun _ => True) v18 (List.replicate l0.length 0)) := ⟨by simpa using HO18'.out⟩
  clear HO18'
  obtain ⟨A18, c18, hv18⟩ := Kd.R_slice HO18.out
  rw [List.length_replicate] at hv18
  subst hv18
  go_loopw [10, 11, 12, 13, 22] (fun v10 v11 v12 v13 v22 w' => ∃ (i : Nat) (S : List Int), i ≤ l1.length ∧ v22 = .int .i64 i ∧ Aside0 (S.length = l0.length) ∧ Aside0 (walkSums k (l0.length : Int) f (l1.drop i) S = some Sf) ∧ Aside0 (Kd.R (Kd.int .i64) 2 w' w.heap.size (fun _ => True) (.slice A18 l0.length c18) S) ∧ Aside0 (Kd.R (Kd.int .u8) 5 w' w.heap.size (fun _ => True) v19 []) ∧ Aside0 (Below w.heap.size w w')) (fun _ _ _ _ v22 _ => l1.length - (intOf v22).toNat)
  case atStart => exact ⟨0, _, Nat.zero_le _, rfl, ⟨by simp⟩, ⟨by simpa using HS.out⟩, HO18, HO19, HB19⟩
  case round =>
    clear HO18 HO19 HB19 HS
    obtain ⟨i, S, hi, rfl, HSL, HS, HOS, HO19, HB⟩ := hrel
    by_cases hlt : i < l1.length
    · obtain ⟨vs, hvs, hvl, hS2⟩ := walkSums_cons (by have := HS.out; rw [drop_rdW hlt] at this; exact this)
      have HV := Aside0.mk hvs
      have HVL := Aside0.mk hvl
      have HS2 := Aside0.mk hS2
      have hmem : rd_T38 l1 (i : Int) ∈ l1 := by simp [rd_T38, hlt]
      have HMEM := Aside0.mk hmem
      clear hvs hvl hS2 hmem
      obtain ⟨ad, rfl, h0, h1, h2, h3, h4, h5⟩ := at_T38 (Kd.C_below HR1.out HB.out) (i : Int) (by omega) (by omega)
      simp only [Int.toNat_natCast] at h0 h1 h2 h3 h4 h5
      obtain ⟨wo, rfl⟩ : ∃ wo : World, wo = wr := ⟨_, rfl⟩
      go_wp2_with (first
        | (go_at_fn fid; refine (HP.out.at_ _ (below_alloc HB.out _) _ HMEM.out).mono ?_; rintro e w2 ⟨rfl, hb2⟩; (have HB2 := Aside0.mk (below_step (below_alloc HB.out _) hb2)); (have HOS2 := Aside0.mk (Kd.R_below (Kd.R_alloc HOS.out _) hb2)); (have HO192 := Aside0.mk (Kd.R_below (Kd.R_alloc HO19.out _) hb2)); (have BK2 := Aside0.mk ((hb2.block wo.heap.size (by simp)).trans (heap_alloc_new wo _))); (have hcb := blk_cell BK2.out); (have hcb0 := hcb 0; have hcb1 := hcb 1; have hcb2 := hcb 2; have hcb3 := hcb 3; have hcb4 := hcb 4; have hcb5 := hcb 5; clear hcb; simp at hcb0 hcb1 hcb2 hcb3 hcb4 hcb5); clear hb2 HOS HO19 h0 h1 h2 h3 h4 h5)
        | (go_at_call 104; refine (impl_Walker_visits.calls k _ _ _ _ _ _ _ vs _ HV.out).mono ?_; rintro e w3 ⟨v3, rfl, ho3, hb3⟩; (have HO3 := Aside0.mk (Kd.R_mono (Kd.R_lower (Kd.R_newR ho3 HOS2.out) HB2.out.size) (fun _ h => h.2))); (have HB3 := Aside0.mk (below_step HB2.out hb3)); (have HOS3 := Aside0.mk (Kd.R_below HOS2.out hb3)); (have HO193 := Aside0.mk (Kd.R_below HO192.out hb3)); (have BK3 := Aside0.mk ((hb3.block _ (blk_lt BK2.out)).trans BK2.out)); clear ho3 hb3 HB2 HOS2 HO192 BK2 hcb0 hcb1 hcb2 hcb3 hcb4 hcb5; obtain ⟨A3, c3, rfl⟩ := Kd.R_slice HO3.out))
      go_loopw [12, 13, 34] (fun v12 v13 v34 w' => ∃ (j : Nat), j ≤ vs.length ∧ v34 = .int .i64 j ∧ Aside0 (Kd.R (Kd.int .i64) 2 w' w.heap.size (fun _ => True) (.slice A18 l0.length c18) (addVis (f (rd_T38 l1 i)) (rd_T38 l1 i).f5 (S.take j) (vs.take j) ++ S.drop j)) ∧ Aside0 (Kd.R (Kd.int .i64) 2 w' w.heap.size (fun k_ => some k_ ≠ (Value.slice A18 l0.length c18).ownBlock) (.slice A3 vs.length c3) vs) ∧ Aside0 (Kd.R (Kd.int .u8) 5 w' w.heap.size (fun _ => True) v19 []) ∧ Aside0 (w'.heap[wo.heap.size]? = some (.cells #[.int .i16 (rd_T38 l1 i).f0, .int .i16 (rd_T38 l1 i).f1, .int .i16 (rd_T38 l1 i).f2, .int .i16 (rd_T38 l1 i).f3, .int .i16 (rd_T38 l1 i).f4, .int .i8 (rd_T38 l1 i).f5] 38 (0, 0))) ∧ Aside0 (Below w.heap.size w w')) (fun _ _ v34 _ => vs.length - (intOf v34).toNat)
      case atStart => exact ⟨0, Nat.zero_le _, rfl, ⟨by simpa [addVis] using HOS3.out⟩, HO3, HO193, BK3, HB3⟩
      case round =>
        clear HO3 HOS3 HO193 BK3 HB3
        obtain ⟨j, hj, rfl, HOS, HO3, HO19, BK, HB2⟩ := hrel
        have hvb : vs.length ≤ 35184372088832 := by have := HVL.out; have := HSL.out; have := HL.out.2; omega
        by_cases hjl : j < vs.length
        · have HLEN := Aside0.mk (zipL_len (f := fun s v => wrap64 (s + wrap64 (wrap64 (f (rd_T38 l1 i) * v) * wrap64 (rd_T38 l1 i).f5))) (S := S) (vs := vs) (j := j) (by have := HVL.out; omega) HVL.out)
          have hjS : j < S.length := by have := HVL.out; omega
          have HJS := Aside0.mk hjS
          clear hjS
          obtain ⟨g18, cap18, hv18, hg18, _, cl18, hcl18⟩ := Kd.R_form HOS.out (by unfold addVis; rw [HLEN.out]; have := HJS.out; omega)
          obtain ⟨rfl, -, rfl⟩ : A18 = some ⟨g18, 0, none⟩ ∧ _ ∧ c18 = cap18 := by injection hv18 with h1 h2 h3; exact ⟨h1, h2, h3⟩
          clear hv18
          have HCL := Aside0.mk hcl18
          clear hcl18
          have P := fun m => Kd.R_putn (Kd.R_drewN HOS.out m) (j : Int) (wrap64 (rd S j + wrap64 (wrap64 (f (rd_T38 l1 i) * rd vs j) * wrap64 (rd_T38 l1 i).f5)))
          have PP := Aside0.mk P
          clear P
          obtain ⟨hx, hfx⟩ := Kd.R_celln 0 HOS.out (j : Int) (by omega) (by have := HSL.out; have := HJS.out; omega)
          obtain ⟨ad3, rfl, hv⟩ := at_nat (Kd.R_reads' HO3.out).2.2 j (by omega)
          have hx2 : wr.cell? ⟨g18, j, none⟩ = some (.int .i64 (rd S j)) := by
            have h1 := rd_zipL (f := fun s v => wrap64 (s + wrap64 (wrap64 (f (rd_T38 l1 i) * v) * wrap64 (rd_T38 l1 i).f5))) (S := S) (vs := vs) (j := j) HJS.out HVL.out
            have h0 := hx
            simp only [Int.toNat_natCast] at h0
            rw [h0]
            exact congrArg (fun z => some (Value.int .i64 z)) h1
          simp only [Int.toNat_natCast] at hfx
          clear hx
          have hbk5 := blk_cell BK.out 5
          simp at hbk5
          have hd1 : decide (j < l0.length) = true := by have := HSL.out; have := HJS.out; simp; omega
          have q1 := eq_true (show (j : Int) < (l0.length : Int) by have := HSL.out; have := HJS.out; omega)
          have q0 := eq_true (show (0 : Int) ≤ (j : Int) by omega)
          go_wp2
          go_still_tail 12, (by kernel_rfl)
          go_wp2
          go_roundw
          case rel =>
            refine ⟨j + 1, by omega, by go_num, ⟨?_⟩, ⟨?_⟩, ⟨?_⟩, ⟨?_⟩, ⟨?_⟩⟩
            · unfold addVis
              rw [← zipL_snoc HJS.out HVL.out]
              exact PP.out 1
            · exact Kd.R_mono (Kd.R_far (p := ⟨g18, j, none⟩) (Kd.R_drew HO3.out) (fun k_ hk he => hk (by rw [he]; rfl)) _) (fun _ h => h)
            · exact Kd.R_mono (Kd.R_far (p := ⟨g18, j, none⟩) (Kd.R_types (Kd.R_drew HO19.out) (g := g18) (t := 2) HCL.out (by decide)) (fun _ hk => hk.2) _) (fun _ _ => trivial)
            · exact blk_far (w := wr.drew) BK.out (blk_ne BK.out HCL.out (by decide)) _
            · exact below_set (below_drew HB2.out) hg18
          case measure => simp [intOf]; omega
        · have hje : j = vs.length := by omega
          go_wp2
          go_roundw
          case rel =>
            refine ⟨i + 1, _, by omega, by go_num, ⟨(addVis_len HVL.out).trans HSL.out⟩, ⟨HS2.out⟩, ⟨?_⟩, HO19, HB2⟩
            have h1 := HOS.out
            unfold addVis at h1 ⊢
            rw [hje, HVL.out, zipL_all HVL.out] at h1
            exact h1
          case measure => simp [intOf]; omega
    · have hie : i = l1.length := by omega
      have hSS : S = Sf := by have := HS.out; rw [hie, List.drop_length] at this; exact Option.some.inj this
      subst hSS
      clear hie hi HS
      go_wp2
      go_loopw [8, 14, 15, 56] (fun v8 v14 v15 v56 w' => ∃ (j : Nat), j ≤ l0.length ∧ v56 = .int .i64 j ∧ Aside0 (Kd.R (Kd.int .i64) 2 w' w.heap.size (fun _ => True) (.slice A18 l0.length c18) S) ∧ Aside0 (Kd.R (Kd.int .u8) 5 w' w.heap.size (fun _ => True) v8 (List.zipWith (fun x s => eighth (wrap64 (wrap64 x + s))) (l0.take j) (S.take j))) ∧ Aside0 (Below w.heap.size w w')) (fun _ _ _ v56 _ => l0.length - (intOf v56).toNat)
      case atStart => exact ⟨0, Nat.zero_le _, rfl, HOS, ⟨by simpa using HO19.out⟩, HB⟩
      case round =>
        clear HOS HO19 HB
        obtain ⟨j, hj, rfl, HOS, HO19, HB⟩ := hrel
        have hvb : l0.length ≤ 35184372088832 := HL.out.2
        by_cases hjl : j < l0.length
        · obtain ⟨ad0, rfl, hx⟩ := at_nat (Kd.C_below HR0.out HB.out) j hjl
          have hjS : j < S.length := by have := HSL.out; omega
          obtain ⟨ad18, rfl, hs⟩ := at_nat (Kd.R_reads' HOS.out).2.2 j hjS
          have HJS := Aside0.mk hjS
          clear hjS
          have hd1 : decide (j < l0.length) = true := by simp; omega
          go_wp2_with (first
            | (go_at_call 101; refine (impl_eighths.calls _ _ _ rfl).mono ?_; rintro e w' ⟨rfl, ⟨nd, rfl⟩⟩)
            | (at_builtin; refine Kd.R_append (Kd.int .u8) (w0 := w) w.heap.size rfl (.tmp 61) (.tmp 70) 24 5 (.int .u8 0) 1 rfl Try.underlying24 info5 rfl (by decide) (by omega) _ _ (eighth (wrap64 (wrap64 (rd l0 j) + rd S j))) _ (fun _ => True) (fun _ => False) rfl rfl rfl (fun _ hk => hk.elim) (fun _ _ => trivial) (Kd.R_drewN HO19.out _) (pw_below_drewN HB.out _) HB.out.size (by have := HL.out.2; simp; omega) ?_; intro v71 w71 ho71 hb71 hg71 _; (have HO71 := Aside0.mk ho71); (have HB71 := Aside0.mk hb71); (have HOS71 := Aside0.mk (Kd.R_over (Kd.R_drewN HOS.out nd) (Kd.R_drewN HO19.out nd) (by decide) hg71)); clear ho71 hb71 hg71))
          go_roundw
          case rel =>
            refine ⟨j + 1, by omega, by go_num, HOS71, ⟨?_⟩, HB71⟩
            have h1 := HO71.out
            rw [List.take_succ_eq_append_getElem hjl, List.take_succ_eq_append_getElem HJS.out, List.zipWith_append (by simp; have := HJS.out; omega)]
            simpa [rd, hjl, HJS.out] using h1
          case measure => simp [intOf]; omega
        · have hje : j = l0.length := by omega
          go_wp2
          go_ret
          refine ⟨_, rfl, ?_, HB.out⟩
          have h1 := HO19.out
          rw [hje, List.take_length, ← HSL.out, List.take_length] at h1
          exact h1
end Go.Proofs.Ytmheflciiodhdaa.P
-- Written by wip/tools/mkprint.py of this repo, over the kit's print, out of the translation; Lean checks it.
namespace Go.Proofs.Ytmheflciiodhdaa.P
open Go.RowKit Go.Proofs.YtmheflciiodhdaaW.PrintWords Go.Proofs.YtmheflciiodhdaaW.PrintLast Go.Proofs.YtmheflciiodhdaaW.PrintMore
attribute [local go_sem] max2_int min2_int max_two min_two max_three min_three max_four min_four   -- for this text's walks alone
set_option linter.unusedVariables false
set_option linter.unusedSimpArgs false
/-! ### impl_within: function 69 -/
def impl_within.f (a0 : Int) (a1 : Int) (a2 : Int) : Option (Bool) := if a1 ≤ a0 then (some (decide (a0 ≤ a2))) else (some false)
set_option maxHeartbeats 8000000 in
set_option maxRecDepth 100000 in
theorem impl_within.calls (a0 : Int) (a1 : Int) (a2 : Int) (r : Bool) (w : World) (h : impl_within.f a0 a1 a2 = some r) :
    Calls Try.prog 69 #[.int .i64 a0, .int .i64 a1, .int .i64 a2] w fun e w' => e = .returned (.bool r) ∧ Drawn0 w w' := by
  have H : (if a1 ≤ a0 then (some (decide (a0 ≤ a2))) else (some false)) = some r := h
  clear h
  by_cases c4 : a1 ≤ a0
  · rw [if_pos c4] at H
    have c4b0 : decide (a1 ≤ a0) = true := decide_eq_true c4
    clear c4
    obtain rfl := Option.some.inj H
    go_enter Try.func69, Try.ntmps69
    go_wp2
    go_ret
    exact ⟨by first | rfl | (simp; done) | (simp [*]; done), by repeat (first | exact Drawn0.refl _ | apply Drawn0.step)⟩
  · rw [if_neg c4] at H
    have c4b0 : decide (a1 ≤ a0) = false := decide_eq_false c4
    clear c4
    obtain rfl := Option.some.inj H
    go_enter Try.func69, Try.ntmps69
    go_wp2
    go_ret
    exact ⟨by first | rfl | (simp; done) | (simp [*]; done), by repeat (first | exact Drawn0.refl _ | apply Drawn0.step)⟩
end Go.Proofs.Ytmheflciiodhdaa.P
-- Written by wip/tools/mkprint.py of this repo, over the kit's print, out of the translation; Lean checks it.
namespace Go.Proofs.Ytmheflciiodhdaa.P
open Go.RowKit Go.Proofs.YtmheflciiodhdaaW.PrintWords Go.Proofs.YtmheflciiodhdaaW.PrintLast Go.Proofs.YtmheflciiodhdaaW.PrintMore
attribute [local go_sem] max2_int min2_int max_two min_two max_three min_three max_four min_four   -- for this text's walks alone
set_option linter.unusedVariables false
set_option linter.unusedSimpArgs false
/-! ### slices_ContainsFunc_int64_int64: given -/
set_option maxHeartbeats 4000000 in
theorem indexFunc_i64 (fid : Nat) (lb : Array Value) (p : Int → Bool) (A : Option Addr) (c : Nat) (xs : List Int) (w : World)
    (hx : Kd.C (Kd.int .i64) w A xs.length xs) (hp : PredI Try.prog fid lb .i64 p w) :
    Calls Try.prog 120 #[.slice A xs.length c, .func (.func fid) #[] lb] w fun e w' => e = .returned (.int .i64 (idx p xs 0)) ∧ Drawn0 w w' := by
  have HR := Aside0.mk hx
  have hn := Kd.C_max hx
  have HP := Aside0.mk hp
  have eg := hp.eg
  clear hx hp
  go_enter Try.func120, Try.ntmps120
  go_wp2
  go_loopw [5, 8] (fun v5 v8 w' => ∃ k : Nat, k ≤ xs.length ∧ v8 = .int .i64 k ∧ Aside0 (idx p (xs.drop k) k = idx p xs 0) ∧ Drawn0 w w') (fun _ v8 _ => xs.length - (intOf v8).toNat)
  case atStart => exact ⟨0, Nat.zero_le _, rfl, ⟨by simp⟩, by repeat (first | exact Drawn0.refl _ | apply Drawn0.step)⟩
  case round =>
    obtain ⟨k, hk, rfl, hi, ⟨nd, rfl⟩⟩ := hrel
    by_cases hlt : k < xs.length
    · obtain ⟨ad, rfl, hcell⟩ := at_nat HR.out k hlt
      have HPK := Aside0.mk (HP.out.at_ (w.drewN nd) (Drawn0.below ⟨⟨nd, rfl⟩⟩) (rd xs (k : Int)))
      have HI : Aside0 ((if p (rd xs (k : Int)) then (k : Int) else idx p (xs.drop (k + 1)) (k + 1)) = idx p xs 0) := ⟨by have := hi.out; rw [drop_rd hlt] at this; exact this⟩
      clear hi
      cases hpv : p (rd xs (k : Int)) with
      | true =>
        rw [hpv] at HPK HI
        clear hpv
        go_wp2_with (go_at_fn fid; refine HPK.out.mono ?_; rintro e w' ⟨rfl, ⟨nd2, rfl⟩⟩)
        go_ret
        exact ⟨by rw [← HI.out]; rfl, by repeat (first | exact Drawn0.refl _ | apply Drawn0.step)⟩
      | false =>
        rw [hpv] at HPK HI
        clear hpv
        go_wp2_with (go_at_fn fid; refine HPK.out.mono ?_; rintro e w' ⟨rfl, ⟨nd2, rfl⟩⟩)
        go_roundw
        case rel => exact ⟨k + 1, by omega, by go_num, ⟨by have := HI.out; simpa using this⟩, by repeat (first | exact Drawn0.refl _ | apply Drawn0.step)⟩
        case measure => simp [intOf]; omega
    · have hke : k = xs.length := by omega
      go_wp2
      go_ret
      exact ⟨by have := hi.out; subst hke; rw [List.drop_length] at this; rw [← this]; rfl, by repeat (first | exact Drawn0.refl _ | apply Drawn0.step)⟩
set_option maxHeartbeats 1000000 in
theorem containsFunc_i64 (fid : Nat) (lb : Array Value) (p : Int → Bool) (A : Option Addr) (c : Nat) (xs : List Int) (w : World)
    (hx : Kd.C (Kd.int .i64) w A xs.length xs) (hp : PredI Try.prog fid lb .i64 p w) :
    Calls Try.prog 117 #[.slice A xs.length c, .func (.func fid) #[] lb] w fun e w' => e = .returned (.bool (xs.any p)) ∧ Drawn0 w w' := by
  have HR := Aside0.mk hx
  have HP := Aside0.mk hp
  clear hx hp
  go_enter Try.func117, Try.ntmps117
  go_wp2_with (go_at_call 120; refine (indexFunc_i64 fid lb p A c xs _ HR.out HP.out).mono ?_; rintro e w' ⟨rfl, ⟨nd, rfl⟩⟩)
  go_ret
  exact ⟨by rw [← idx_ge p xs 0 (by omega)]; rfl, by repeat (first | exact Drawn0.refl _ | apply Drawn0.step)⟩
end Go.Proofs.Ytmheflciiodhdaa.P
-- Written by wip/tools/mkprint.py of this repo, over the kit's print, out of the translation; Lean checks it.
namespace Go.Proofs.Ytmheflciiodhdaa.P
open Go.RowKit Go.Proofs.YtmheflciiodhdaaW.PrintWords Go.Proofs.YtmheflciiodhdaaW.PrintLast Go.Proofs.YtmheflciiodhdaaW.PrintMore
attribute [local go_sem] max2_int min2_int max_two min_two max_three min_three max_four min_four   -- for this text's walks alone
set_option linter.unusedVariables false
set_option linter.unusedSimpArgs false
/-! ### impl_allWithin: given -/
def inR (lo hi x : Int) : Bool := decide (lo ≤ x) && decide (x ≤ hi)
theorem within_inR (x lo hi : Int) : impl_within.f x lo hi = some (inR lo hi x) := by
  unfold impl_within.f inR
  by_cases h : lo ≤ x <;> simp [h]
set_option maxHeartbeats 1000000 in
theorem allWithin_pred (lo hi : Int) (a b : Nat) (w : World) (ha : w.cell? ⟨a, 0, none⟩ = some (.int .i64 lo)) (hb : w.cell? ⟨b, 0, none⟩ = some (.int .i64 hi)) :
    PredI Try.prog 118 #[.pointer (some ⟨a, 0, none⟩), .pointer (some ⟨b, 0, none⟩)] .i64 (fun x => !(inR lo hi x)) w := by
  refine ⟨enters_of Try.func118 (by kernel_rfl) rfl, fun W hW x => ?_⟩
  have ha' := pw_cell_below hW ha
  have hb' := pw_cell_below hW hb
  clear ha hb
  show Calls Try.prog 118 #[.int .i64 x, .pointer (some ⟨a, 0, none⟩), .pointer (some ⟨b, 0, none⟩)] W _
  go_enter Try.func118, Try.ntmps118
  go_wp2_with (go_at_call 69; refine (impl_within.calls _ _ _ _ _ (within_inR _ _ _)).mono ?_; rintro e w' ⟨rfl, ⟨nd, rfl⟩⟩)
  go_ret
  exact ⟨rfl, by repeat (first | exact Drawn0.refl _ | apply Drawn0.step)⟩
def impl_allWithin.f (l0 : List Int) (a1 : Int) (a2 : Int) : Option Bool := some (l0.all (inR a1 a2))
set_option maxHeartbeats 1000000 in
theorem impl_allWithin.calls (A0 : Option Addr) (c0 : Nat) (l0 : List Int) (a1 : Int) (a2 : Int) (r : Bool) (w : World) (hr0 : Kd.C (Kd.int .i64) w A0 l0.length l0) (hc0 : l0.length ≤ c0) (h : impl_allWithin.f l0 a1 a2 = some r) :
    Calls Try.prog 112 #[.slice A0 l0.length c0, .int .i64 a1, .int .i64 a2] w fun e w' => e = .returned (.bool r) ∧ Below w.heap.size w w' := by
  obtain rfl := Option.some.inj h
  have HR := Aside0.mk hr0
  clear hr0 h
  go_enter Try.func112, Try.ntmps112
  go_wp2_with (go_at_call 117; refine (containsFunc_i64 _ _ _ A0 c0 l0 _ (Kd.C_alloc (Kd.C_alloc HR.out _) _) (allWithin_pred a1 a2 _ _ _ (by simp) (by simp))).mono ?_; rintro e w' ⟨rfl, ⟨nd, rfl⟩⟩)
  go_ret
  refine ⟨by rw [List.not_any_eq_all_not]; simp, ?_⟩
  exact pw_below_drewN (below_alloc (below_alloc (Below.refl _ _) _) _) nd
end Go.Proofs.Ytmheflciiodhdaa.P
-- Written by wip/tools/mkprint.py of this repo, over the kit's print, out of the translation; Lean checks it.
namespace Go.Proofs.Ytmheflciiodhdaa.P
open Go.RowKit Go.Proofs.YtmheflciiodhdaaW.PrintWords Go.Proofs.YtmheflciiodhdaaW.PrintLast Go.Proofs.YtmheflciiodhdaaW.PrintMore
attribute [local go_sem] max2_int min2_int max_two min_two max_three min_three max_four min_four   -- for this text's walks alone
set_option linter.unusedVariables false
set_option linter.unusedSimpArgs false
/-! ### impl_ValidWalkers: given -/
def badW (b : Int) (x : S38) : Bool :=
  !(inR 0 10000 (wrap64 x.f0)) || !(inR 1 100 (wrap64 x.f1)) || !(inR 0 (b - 1) (wrap64 x.f2)) || !(inR 0 60 (wrap64 x.f3)) || !(inR 1 60 (wrap64 x.f4)) || !(inR (-7) 7 (wrap64 x.f5))
set_option maxHeartbeats 8000000 in
theorem ValidWalkers_pred (w : World) (g : Nat) (b : Int) (hb0 : 1 ≤ b) (hb1 : b ≤ 60) (hc : w.cell? ⟨g, 0, none⟩ = some (.int .i64 b)) : PredW 99 #[.pointer (some ⟨g, 0, none⟩)] (badW b) w := by
  refine ⟨enters_of Try.func99 (by kernel_rfl) rfl, fun W hW x => ?_⟩
  show Calls Try.prog 99 #[encW x, .pointer (some ⟨g, 0, none⟩)] W _
  have hlt := World.block_lt_of_cell? w _ hc
  have hc' := pw_cell_below hW hc
  have hg' : g < W.heap.size := by have := hW.size; simp at hlt; omega
  clear hc hlt hW
  have hu := Try.underlying38
  obtain ⟨x0, x1, x2, x3, x4, x5⟩ := x
  unfold badW encW
  have E := fun (a lo hi : Int) (r : Bool) (h : inR lo hi a = r) => (show impl_within.f a lo hi = some r by rw [within_inR, h])
  have fin : ∀ W', W' = W.alloc (.cells #[.int .i16 x0, .int .i16 x1, .int .i16 x2, .int .i16 x3, .int .i16 x4, .int .i8 x5] 38) → Below W.heap.size W W' := fun W' h => by rw [h]; exact below_alloc (Below.refl _ _) _
  have FIN := Aside0.mk fin
  clear fin
  by_cases h0 : inR 0 10000 (wrap64 x0) = true
  · have H0 := Aside0.mk (E _ _ _ _ h0)
    by_cases h1 : inR 1 100 (wrap64 x1) = true
    · have H1 := Aside0.mk (E _ _ _ _ h1)
      by_cases h2 : inR 0 (b - 1) (wrap64 x2) = true
      · have H2 := Aside0.mk (E _ _ _ _ h2)
        by_cases h3 : inR 0 60 (wrap64 x3) = true
        · have H3 := Aside0.mk (E _ _ _ _ h3)
          by_cases h4 : inR 1 60 (wrap64 x4) = true
          · have H4 := Aside0.mk (E _ _ _ _ h4)
            have H5 := Aside0.mk (E (wrap64 x5) (-7) 7 _ rfl)
            have HH := Aside0.mk (And.intro h0 (And.intro h1 (And.intro h2 (And.intro h3 h4))))
            clear h0 h1 h2 h3 h4 E
            go_enter Try.func99, Try.ntmps99
            go_wp2_with (go_at_call 69; (first | ((with_reducible refine (impl_within.calls _ _ _ _ _ H0.out).mono ?_); rintro e w' ⟨rfl, ⟨nd, rfl⟩⟩) | ((with_reducible refine (impl_within.calls _ _ _ _ _ H1.out).mono ?_); rintro e w' ⟨rfl, ⟨nd, rfl⟩⟩) | ((with_reducible refine (impl_within.calls _ _ _ _ _ H2.out).mono ?_); rintro e w' ⟨rfl, ⟨nd, rfl⟩⟩) | ((with_reducible refine (impl_within.calls _ _ _ _ _ H3.out).mono ?_); rintro e w' ⟨rfl, ⟨nd, rfl⟩⟩) | ((with_reducible refine (impl_within.calls _ _ _ _ _ H4.out).mono ?_); rintro e w' ⟨rfl, ⟨nd, rfl⟩⟩) | ((with_reducible refine (impl_within.calls _ _ _ _ _ H5.out).mono ?_); rintro e w' ⟨rfl, ⟨nd, rfl⟩⟩)))
            go_ret
            exact ⟨by obtain ⟨h0, h1, h2, h3, h4⟩ := HH.out; simp [h0, h1, h2, h3, h4], by repeat (first | exact FIN.out _ rfl | apply pw_below_drewN)⟩
          · replace h4 := Bool.eq_false_iff.mpr h4
            have H4 := Aside0.mk (E _ _ _ _ h4)
            have HH := Aside0.mk (And.intro h0 (And.intro h1 (And.intro h2 (And.intro h3 h4))))
            clear h0 h1 h2 h3 h4 E
            go_enter Try.func99, Try.ntmps99
            go_wp2_with (go_at_call 69; (first | ((with_reducible refine (impl_within.calls _ _ _ _ _ H0.out).mono ?_); rintro e w' ⟨rfl, ⟨nd, rfl⟩⟩) | ((with_reducible refine (impl_within.calls _ _ _ _ _ H1.out).mono ?_); rintro e w' ⟨rfl, ⟨nd, rfl⟩⟩) | ((with_reducible refine (impl_within.calls _ _ _ _ _ H2.out).mono ?_); rintro e w' ⟨rfl, ⟨nd, rfl⟩⟩) | ((with_reducible refine (impl_within.calls _ _ _ _ _ H3.out).mono ?_); rintro e w' ⟨rfl, ⟨nd, rfl⟩⟩) | ((with_reducible refine (impl_within.calls _ _ _ _ _ H4.out).mono ?_); rintro e w' ⟨rfl, ⟨nd, rfl⟩⟩)))
            go_ret
            exact ⟨by obtain ⟨h0, h1, h2, h3, h4⟩ := HH.out; simp [h0, h1, h2, h3, h4], by repeat (first | exact FIN.out _ rfl | apply pw_below_drewN)⟩
        · replace h3 := Bool.eq_false_iff.mpr h3
          have H3 := Aside0.mk (E _ _ _ _ h3)
          have HH := Aside0.mk (And.intro h0 (And.intro h1 (And.intro h2 h3)))
          clear h0 h1 h2 h3 E
          go_enter Try.func99, Try.ntmps99
          go_wp2_with (go_at_call 69; (first | ((with_reducible refine (impl_within.calls _ _ _ _ _ H0.out).mono ?_); rintro e w' ⟨rfl, ⟨nd, rfl⟩⟩) | ((with_reducible refine (impl_within.calls _ _ _ _ _ H1.out).mono ?_); rintro e w' ⟨rfl, ⟨nd, rfl⟩⟩) | ((with_reducible refine (impl_within.calls _ _ _ _ _ H2.out).mono ?_); rintro e w' ⟨rfl, ⟨nd, rfl⟩⟩) | ((with_reducible refine (impl_within.calls _ _ _ _ _ H3.out).mono ?_); rintro e w' ⟨rfl, ⟨nd, rfl⟩⟩)))
          go_ret
          exact ⟨by obtain ⟨h0, h1, h2, h3⟩ := HH.out; simp [h0, h1, h2, h3], by repeat (first | exact FIN.out _ rfl | apply pw_below_drewN)⟩
      · replace h2 := Bool.eq_false_iff.mpr h2
        have H2 := Aside0.mk (E _ _ _ _ h2)
        have HH := Aside0.mk (And.intro h0 (And.intro h1 h2))
        clear h0 h1 h2 E
        go_enter Try.func99, Try.ntmps99
        go_wp2_with (go_at_call 69; (first | ((with_reducible refine (impl_within.calls _ _ _ _ _ H0.out).mono ?_); rintro e w' ⟨rfl, ⟨nd, rfl⟩⟩) | ((with_reducible refine (impl_within.calls _ _ _ _ _ H1.out).mono ?_); rintro e w' ⟨rfl, ⟨nd, rfl⟩⟩) | ((with_reducible refine (impl_within.calls _ _ _ _ _ H2.out).mono ?_); rintro e w' ⟨rfl, ⟨nd, rfl⟩⟩)))
        go_ret
        exact ⟨by obtain ⟨h0, h1, h2⟩ := HH.out; simp [h0, h1, h2], by repeat (first | exact FIN.out _ rfl | apply pw_below_drewN)⟩
    · replace h1 := Bool.eq_false_iff.mpr h1
      have H1 := Aside0.mk (E _ _ _ _ h1)
      have HH := Aside0.mk (And.intro h0 h1)
      clear h0 h1 E
      go_enter Try.func99, Try.ntmps99
      go_wp2_with (go_at_call 69; (first | ((with_reducible refine (impl_within.calls _ _ _ _ _ H0.out).mono ?_); rintro e w' ⟨rfl, ⟨nd, rfl⟩⟩) | ((with_reducible refine (impl_within.calls _ _ _ _ _ H1.out).mono ?_); rintro e w' ⟨rfl, ⟨nd, rfl⟩⟩)))
      go_ret
      exact ⟨by obtain ⟨h0, h1⟩ := HH.out; simp [h0, h1], by repeat (first | exact FIN.out _ rfl | apply pw_below_drewN)⟩
  · replace h0 := Bool.eq_false_iff.mpr h0
    have H0 := Aside0.mk (E _ _ _ _ h0)
    have HH := Aside0.mk h0
    clear h0 E
    go_enter Try.func99, Try.ntmps99
    go_wp2_with (go_at_call 69; (first | ((with_reducible refine (impl_within.calls _ _ _ _ _ H0.out).mono ?_); rintro e w' ⟨rfl, ⟨nd, rfl⟩⟩)))
    go_ret
    exact ⟨by have h0 := HH.out; simp [h0], by repeat (first | exact FIN.out _ rfl | apply pw_below_drewN)⟩
def validWalkers (b : Int) (l : List S38) : Bool := inR 1 60 b && decide ((l.length : Int) ≤ 8) && !(l.any (badW b))
def impl_ValidWalkers.f (a0 : Int) (l1 : List S38) : Option Bool := some (validWalkers a0 l1)
set_option maxHeartbeats 2000000 in
theorem impl_ValidWalkers.calls (a0 : Int) (A1 : Option Addr) (c1 : Nat) (l1 : List S38) (r : Bool) (w : World) (hr1 : Kd.C k38 w A1 l1.length l1) (hc1 : l1.length ≤ c1) (h : impl_ValidWalkers.f a0 l1 = some r) :
    Calls Try.prog 51 #[.int .i64 a0, .slice A1 l1.length c1] w fun e w' => e = .returned (.bool r) ∧ Below w.heap.size w w' := by
  obtain rfl := Option.some.inj h
  have HR := Aside0.mk hr1
  clear hr1 h
  unfold validWalkers
  cases h1 : inR 1 60 a0 with
  | true =>
    have H1 := Aside0.mk (show impl_within.f a0 1 60 = some true by rw [within_inR, h1])
    have HA : 1 ≤ a0 ∧ a0 ≤ 60 := by simpa [inR] using h1
    have HB := Aside0.mk HA
    clear h1 HA
    by_cases h2 : l1.length ≤ 8
    · have h2' : decide ((l1.length : Int) ≤ 8) = true := by simp; omega
      have h2'' : decide (l1.length ≤ 8) = true := by simp; omega
      clear h2
      go_enter Try.func51, Try.ntmps51
      go_wp2_with (first | (go_at_call 69; refine (impl_within.calls _ _ _ _ _ H1.out).mono ?_; rintro e w' ⟨rfl, ⟨nd, rfl⟩⟩) | (go_at_call 98; refine (containsFunc_W _ _ (badW a0) A1 c1 l1 _ (Kd.C_drewN (Kd.C_alloc HR.out _) _) (ValidWalkers_pred _ _ a0 HB.out.1 HB.out.2 (by simp))).mono ?_; rintro e w' ⟨rfl, hb⟩; have HBB := Aside0.mk hb; clear hb))
      go_ret
      exact ⟨by simp [h2'], below_step (by repeat (first | exact Below.refl _ _ | apply pw_below_drewN | apply below_alloc)) HBB.out⟩
    · have h2' : decide ((l1.length : Int) ≤ 8) = false := by simp; omega
      have h2'' : decide (l1.length ≤ 8) = false := by simp; omega
      clear h2
      go_enter Try.func51, Try.ntmps51
      go_wp2_with (first | (go_at_call 69; refine (impl_within.calls _ _ _ _ _ H1.out).mono ?_; rintro e w' ⟨rfl, ⟨nd, rfl⟩⟩))
      go_ret
      exact ⟨by simp [h2'], by repeat (first | exact Below.refl _ _ | apply pw_below_drewN | apply below_alloc)⟩
  | false =>
    have H1 := Aside0.mk (show impl_within.f a0 1 60 = some false by rw [within_inR, h1])
    clear h1
    go_enter Try.func51, Try.ntmps51
    go_wp2_with (first | (go_at_call 69; refine (impl_within.calls _ _ _ _ _ H1.out).mono ?_; rintro e w' ⟨rfl, ⟨nd, rfl⟩⟩))
    go_ret
    exact ⟨by simp, by repeat (first | exact Below.refl _ _ | apply pw_below_drewN | apply below_alloc)⟩
end Go.Proofs.Ytmheflciiodhdaa.P
/- Rows and walkers in plain words: who stands where how often, and what a row is after walks. -/
namespace Go.Proofs.Ytmheflciiodhdaa.P
open Go.RowKit Go.Proofs.YtmheflciiodhdaaW.PrintWords Go.Proofs.YtmheflciiodhdaaW.PrintLast Go.Proofs.YtmheflciiodhdaaW.PrintMore
/-- A walker whose numbers are in bounds, for a row of b bottles. -/
structure WOk (b : Int) (x : S38) : Prop where
  h0 : 0 ≤ x.f0 ∧ x.f0 ≤ 10000
  h1 : 1 ≤ x.f1 ∧ x.f1 ≤ 100
  h2 : 0 ≤ x.f2 ∧ x.f2 ≤ b - 1
  h3 : 0 ≤ x.f3 ∧ x.f3 ≤ 60
  h4 : 1 ≤ x.f4 ∧ x.f4 ≤ 60
  h5 : -7 ≤ x.f5 ∧ x.f5 ≤ 7
theorem rd_getElem {xs : List Int} {i : Nat} (h : i < xs.length) : rd xs (i : Int) = xs[i] := rd_lt h
theorem ext_rd {a b : List Int} (hl : a.length = b.length) (h : ∀ i : Nat, i < a.length → rd a i = rd b i) : a = b := by
  refine List.ext_getElem hl (fun i h1 h2 => ?_)
  have := h i h1
  rwa [rd_lt h1, rd_lt h2] at this
theorem rd_zipWith {g : Int → Int → Int} {xs ys : List Int} {i : Nat} (h1 : i < xs.length) (h2 : i < ys.length) : rd (List.zipWith g xs ys) i = g (rd xs i) (rd ys i) := by
  rw [rd_lt (by simp; omega), rd_lt h1, rd_lt h2]; simp
theorem rd_mem {p : Int → Prop} {xs : List Int} (h : ∀ y ∈ xs, p y) (h0 : p 0) (i : Int) : p (rd xs i) := by
  simp only [rd, List.getD_eq_getElem?_getD]
  cases e : xs[i.toNat]? with
  | none => exact h0
  | some y => exact h y (List.mem_of_getElem? e)
def visN (b st sp : Int) : Nat → List Int
  | 0 => List.replicate b.toNat 0
  | j + 1 => (visN b st sp j).set ((st + j * sp) % b).toNat (rd (visN b st sp j) ((st + j * sp) % b) + 1)
def vis (b : Int) (x : S38) : List Int := visN b x.f2 x.f3 x.f4.toNat
theorem visN_len (b st sp : Int) : ∀ j, (visN b st sp j).length = b.toNat
  | 0 => by simp [visN]
  | j + 1 => by simp [visN, visN_len b st sp j]
theorem visN_bound (b st sp : Int) : ∀ (j : Nat) (y : Int), y ∈ visN b st sp j → 0 ≤ y ∧ y ≤ j
  | 0, y, h => by simp [visN] at h; omega
  | j + 1, y, h => by
    have ih := visN_bound b st sp j
    rcases List.mem_or_eq_of_mem_set h with h | h
    · have := ih y h; omega
    · have := rd_mem (p := fun y => 0 ≤ y ∧ y ≤ j) ih (by omega) ((st + j * sp) % b)
      omega
theorem visN_rd (b st sp : Int) (j : Nat) (i : Int) : 0 ≤ rd (visN b st sp j) i ∧ rd (visN b st sp j) i ≤ j :=
  rd_mem (p := fun y => 0 ≤ y ∧ y ≤ j) (visN_bound b st sp j) (by omega) i
theorem vis_len (b : Int) (x : S38) : (vis b x).length = b.toNat := visN_len _ _ _ _
theorem vis_rd {b : Int} {x : S38} (hx : WOk b x) (i : Int) : 0 ≤ rd (vis b x) i ∧ rd (vis b x) i ≤ 60 := by
  have := visN_rd b x.f2 x.f3 x.f4.toNat i
  have := hx.h4
  unfold vis
  omega
theorem at_step {st sp b : Int} (j : Nat) : ((st + j * sp) % b + sp) % b = (st + ((j + 1 : Nat) : Int) * sp) % b := by
  rw [Int.emod_add_emod]
  congr 1
  push_cast
  rw [Int.add_mul, Int.one_mul]; omega
theorem tmod_nn {a b : Int} (h : 0 ≤ a) : Int.tmod a b = a % b := Int.tmod_eq_emod_of_nonneg h
theorem w16 {x : Int} (h0 : -32768 ≤ x) (h1 : x ≤ 32767) : IntKind.i16.wrap x = x := by
  simp [IntKind.wrap, IntKind.signed, IntKind.bits]
  omega
theorem specVisits_ev {b : Int} {x : S38} (hb : 1 ≤ b) (hb1 : b ≤ 60) (hx : WOk b x) : Ev (fun k => spec_l05Visits.f k b x.f0 x.f1 x.f2 x.f3 x.f4 x.f5) (vis b x) := by
  obtain ⟨⟨a0, b0⟩, ⟨a1, b1⟩, ⟨a2, b2⟩, ⟨a3, b3⟩, ⟨a4, b4⟩, ⟨a5, b5⟩⟩ := hx
  have key := Ev.loop (fun k (s : List Int × Int) i => spec_l05Visits.l0 k b s.1 s.2 i x.f0 x.f1 x.f2 x.f3 x.f4 x.f5) x.f4.toNat
    (fun i s => s = (visN b x.f2 x.f3 i, (x.f2 + i * x.f3) % b)) (vis b x) ?_ ?_ x.f4.toNat 0 (List.replicate b.toNat 0, x.f2) (by omega)
    (by simp [visN]; exact (Int.emod_eq_of_lt (by omega) (by omega)).symm)
  · refine Ev.congr (fun k => ?_) key
    unfold spec_l05Visits.f
    rw [if_pos (by omega), if_pos (by omega), w64 (by omega) (by omega)]; rfl
  · rintro i s hi rfl
    have m0 := Int.emod_nonneg (x.f2 + i * x.f3) (show b ≠ 0 by omega)
    have m1 := Int.emod_lt_of_pos (x.f2 + i * x.f3) (show 0 < b by omega)
    have hv := visN_rd b x.f2 x.f3 i ((x.f2 + i * x.f3) % b)
    have hl := visN_len b x.f2 x.f3 i
    refine ⟨_, rfl, fun h => Ev.step (fun k => ?_) h⟩
    simp only [spec_l05Visits.l0]
    rw [← at_step]
    simp only [visN]
    generalize hz : (x.f2 + i * x.f3) % b = z at *
    rw [if_pos (by omega), if_pos (by omega), if_pos (by omega), if_neg (by omega), w64 (by omega) (by omega), w64 (x := x.f3) (by omega) (by omega), w64 (x := z + x.f3) (by omega) (by omega), w16 (by omega) (by omega), tmod_nn (by omega)]
  · rintro s rfl
    exact Ev.one (fun k => by simp only [spec_l05Visits.l0]; rw [if_neg (by omega)]; rfl)
theorem implVisits_ev {b : Int} {x : S38} (hb : 1 ≤ b) (hb1 : b ≤ 60) (hx : WOk b x) : Ev (fun k => impl_Walker_visits.f k x.f0 x.f1 x.f2 x.f3 x.f4 x.f5 b) (vis b x) := by
  obtain ⟨⟨a0, b0⟩, ⟨a1, b1⟩, ⟨a2, b2⟩, ⟨a3, b3⟩, ⟨a4, b4⟩, ⟨a5, b5⟩⟩ := hx
  have key := Ev.loop (fun k (s : List Int) i => impl_Walker_visits.l0 k b s x.f4 i x.f0 x.f1 x.f2 x.f3 x.f4 x.f5) x.f4.toNat
    (fun i s => s = visN b x.f2 x.f3 i) (vis b x) ?_ ?_ x.f4.toNat 0 (List.replicate b.toNat 0) (by omega) rfl
  · refine Ev.congr (fun k => ?_) key
    unfold impl_Walker_visits.f
    rw [if_pos (by omega), if_pos (by omega), w64 (by omega) (by omega)]; rfl
  · rintro i s hi rfl
    have hm : 0 ≤ (i : Int) * x.f3 ∧ (i : Int) * x.f3 ≤ 60 * 60 := by
      refine ⟨Int.mul_nonneg (by omega) (by omega), ?_⟩
      exact Int.mul_le_mul (by omega) (by omega) (by omega) (by omega)
    have m0 := Int.emod_nonneg (x.f2 + i * x.f3) (show b ≠ 0 by omega)
    have m1 := Int.emod_lt_of_pos (x.f2 + i * x.f3) (show 0 < b by omega)
    have hv := visN_rd b x.f2 x.f3 i ((x.f2 + i * x.f3) % b)
    have hl := visN_len b x.f2 x.f3 i
    refine ⟨_, rfl, fun h => Ev.step (fun k => ?_) h⟩
    simp only [impl_Walker_visits.l0]
    rw [w64 (x := x.f3) (by omega) (by omega), w64 (x := x.f2) (by omega) (by omega), w64 (x := (i : Int) * x.f3) (by omega) (by omega), w64 (x := x.f2 + (i : Int) * x.f3) (by omega) (by omega), tmod_nn (by omega)]
    simp only [visN]
    generalize hz : (x.f2 + i * x.f3) % b = z at *
    rw [if_pos (by omega), if_neg (by omega), if_pos (by omega), if_pos (by omega), w64 (by omega) (by omega), w64 (by omega) (by omega)]
  · rintro s rfl
    exact Ev.one (fun k => by simp only [impl_Walker_visits.l0]; rw [if_neg (by omega)]; rfl)
theorem tmod8 (a : Int) : ∃ q, Int.tmod a 8 = a - 8 * q ∧ -7 ≤ Int.tmod a 8 ∧ Int.tmod a 8 ≤ 7 := by
  refine ⟨Int.tdiv a 8, ?_, ?_, ?_⟩
  · have := Int.tmod_add_mul_tdiv a 8; omega
  · have h1 := Int.tmod_lt_of_pos (-a) (show (0 : Int) < 8 by omega)
    rw [Int.neg_tmod] at h1; omega
  · have := Int.tmod_lt_of_pos a (show (0 : Int) < 8 by omega); omega
theorem eighth_eq (z : Int) : eighth z = z % 8 := by
  obtain ⟨q, hq, h0, h1⟩ := tmod8 z
  unfold eighth
  rw [w64 (by omega) (by omega), tmod_nn (by omega)]
  omega
theorem mul_bd {a b : Int} {A B : Nat} (ha : a.natAbs ≤ A) (hb : b.natAbs ≤ B) : (a * b).natAbs ≤ A * B := by
  rw [Int.natAbs_mul]; exact Nat.mul_le_mul ha hb
/-- One walker's walk, bottle by bottle. -/
theorem turnAt_eq {walks turn v x : Int} (hx : 0 ≤ x ∧ x ≤ 255) (hv : 0 ≤ v ∧ v ≤ 60) (ht : -7 ≤ turn ∧ turn ≤ 7) : turnAt walks turn v x = (x + walks * v * turn) % 8 := by
  obtain ⟨q, hq, h0, h1⟩ := tmod8 walks
  have m1 : (Int.tmod walks 8 * v).natAbs ≤ 7 * 60 := mul_bd (by omega) (by omega)
  have m2 : (Int.tmod walks 8 * v * turn).natAbs ≤ 7 * 60 * 7 := mul_bd m1 (by omega)
  have e : walks * v * turn = Int.tmod walks 8 * v * turn + 8 * (q * v * turn) := by
    rw [hq, Int.sub_mul, Int.sub_mul, Int.mul_assoc 8 q v, Int.mul_assoc 8 (q * v) turn]; omega
  unfold turnAt
  rw [w64 (x := x) (by omega) (by omega), w64 (x := turn) (by omega) (by omega), w64 (x := Int.tmod walks 8 * v) (by omega) (by omega), w64 (x := Int.tmod walks 8 * v * turn) (by omega) (by omega), w64 (x := x + Int.tmod walks 8 * v * turn) (by omega) (by omega)]
  have := eighth_eq (x + Int.tmod walks 8 * v * turn)
  unfold eighth at this
  rw [this, e]; omega
/-- What walks add to a bottle's turn. -/
def sumAt (b : Int) (f : S38 → Int) (i : Nat) : List S38 → Int
  | [] => 0
  | x :: r => f x * rd (vis b x) i * x.f5 + sumAt b f i r
def rowBy (f : S38 → Int) (ws : List S38) (r : List Int) : List Int := (List.range r.length).map fun (i : Nat) => (rd r (i : Int) + sumAt r.length f i ws) % 8
theorem rowBy_len (f : S38 → Int) (ws : List S38) (r : List Int) : (rowBy f ws r).length = r.length := by simp [rowBy]
theorem rowBy_rd {f : S38 → Int} {ws : List S38} {r : List Int} {i : Nat} (h : i < r.length) : rd (rowBy f ws r) i = (rd r i + sumAt r.length f i ws) % 8 := by
  rw [rd_lt (by rw [rowBy_len]; exact h)]; simp [rowBy]
theorem sumAt_add (b : Int) (f g h : S38 → Int) (i : Nat) : ∀ (ws : List S38), (∀ x ∈ ws, h x = f x + g x) → sumAt b h i ws = sumAt b f i ws + sumAt b g i ws
  | [], _ => rfl
  | x :: r, hx => by
    rw [sumAt, sumAt, sumAt, sumAt_add b f g h i r (fun y hy => hx y (List.mem_cons_of_mem _ hy)), hx x (List.mem_cons_self), Int.add_mul, Int.add_mul]; omega
theorem rowBy_rowBy (f g h : S38 → Int) (ws : List S38) (r : List Int) (hx : ∀ x ∈ ws, h x = f x + g x) : rowBy g ws (rowBy f ws r) = rowBy h ws r := by
  refine ext_rd (by simp [rowBy_len]) (fun i hi => ?_)
  rw [rowBy_len, rowBy_len] at hi
  rw [rowBy_rd (by rw [rowBy_len]; exact hi), rowBy_rd hi, rowBy_rd hi, rowBy_len, sumAt_add _ f g h i ws hx]
  omega
theorem rowBy_cong (f g : S38 → Int) (ws : List S38) (r : List Int) (hx : ∀ x ∈ ws, f x = g x) : rowBy f ws r = rowBy g ws r := by
  have e : ∀ i, sumAt r.length f i ws = sumAt r.length g i ws := fun i => by
    have := sumAt_add r.length g (fun _ => 0) f i ws (fun x h => by rw [hx x h]; omega)
    have z := sumAt_add r.length (fun _ => 0) (fun _ => 0) (fun _ => 0) i ws (fun _ _ => rfl)
    omega
  unfold rowBy
  simp only [e]
theorem rowBy_bd (f : S38 → Int) (ws : List S38) (r : List Int) : ∀ x ∈ rowBy f ws r, 0 ≤ x ∧ x ≤ 7 := by
  intro x hx
  obtain ⟨i, -, rfl⟩ := List.mem_map.mp hx
  omega
theorem rowBy_nil (f : S38 → Int) (r : List Int) (h : ∀ x ∈ r, 0 ≤ x ∧ x ≤ 7) : rowBy f [] r = r := by
  refine ext_rd (rowBy_len _ _ _) (fun i hi => ?_)
  rw [rowBy_len] at hi
  rw [rowBy_rd hi, sumAt]
  have := h _ (List.getElem_mem hi)
  rw [rd_lt hi]; omega
/-- The reference's walk of one walker. -/
theorem specTurned_ev {r : List Int} {x : S38} {n : Int} (hb : 1 ≤ r.length) (hb1 : r.length ≤ 60) (hr : ∀ y ∈ r, 0 ≤ y ∧ y ≤ 255) (hx : WOk r.length x) :
    Ev (fun k => spec_l05Turned.f k r x.f0 x.f1 x.f2 x.f3 x.f4 x.f5 n) (rowBy (fun _ => n) [x] r) := by
  refine Ev.congr (fun k => ?_) (Ev.bind (specVisits_ev (by omega) (by omega) hx) (f := fun _ vs => if (vs : List Int).length = r.length ∧ r.length < 140737488355328 then some (List.zipWith (turnAt n x.f5) vs r) else none) (Ev.some fun k => ?_))
  · rfl
  · have hl : (vis r.length x).length = r.length := by rw [vis_len]; omega
    rw [if_pos ⟨hl, by omega⟩]
    congr 1
    refine ext_rd (by simp [rowBy_len, hl]) (fun i hi => ?_)
    have hi' : i < r.length := by simpa [hl] using hi
    rw [rd_zipWith (by omega) hi', rowBy_rd hi', turnAt_eq ?_ (vis_rd hx _) hx.h5, sumAt, sumAt]
    · congr 1; omega
    · rw [rd_lt hi']; exact hr _ (List.getElem_mem hi')
theorem rowBy_cons (f : S38 → Int) (x : S38) (ws : List S38) (r : List Int) : rowBy f ws (rowBy (fun _ => f x) [x] r) = rowBy f (x :: ws) r := by
  refine ext_rd (by simp [rowBy_len]) (fun i hi => ?_)
  rw [rowBy_len, rowBy_len] at hi
  rw [rowBy_rd (by rw [rowBy_len]; exact hi), rowBy_rd hi, rowBy_rd hi, rowBy_len, sumAt, sumAt, sumAt]
  omega
/-- The program's walk of all walkers. -/
theorem walkSums_ev {b : Int} (hb : 1 ≤ b) (hb1 : b ≤ 60) (f : S38 → Int) : ∀ (ws : List S38) (S : List Int) (B : Nat), (∀ x ∈ ws, WOk b x) → (∀ x ∈ ws, (f x).natAbs ≤ 1000000) → S.length = b.toNat → (∀ i : Nat, (rd S i).natAbs ≤ B) → B + ws.length * 420000000 ≤ 1000000000000 →
    ∃ S', Ev (fun k => walkSums k b f ws S) S' ∧ S'.length = b.toNat ∧ ∀ i : Nat, i < b.toNat → rd S' i = rd S i + sumAt b f i ws ∧ (rd S' i).natAbs ≤ 1000000000000
  | [], S, B, _, _, hl, hS, hB => ⟨S, Ev.pure S, hl, fun i hi => ⟨by simp [sumAt], by have := hS i; simp at hB; omega⟩⟩
  | x :: ws, S, B, hw, hf, hl, hS, hB => by
    have hx := hw x List.mem_cons_self
    have hfx := hf x List.mem_cons_self
    have hvl := vis_len b x
    have h5 := hx.h5
    have hm1 : ∀ i : Nat, (f x * rd (vis b x) i).natAbs ≤ 1000000 * 60 := fun i => mul_bd hfx (by have := vis_rd hx i; omega)
    have hm2 : ∀ i : Nat, (f x * rd (vis b x) i * x.f5).natAbs ≤ 1000000 * 60 * 7 := fun i => mul_bd (hm1 i) (by omega)
    have hlen : (addVis (f x) x.f5 S (vis b x)).length = b.toNat := by rw [addVis_len (by omega)]; exact hl
    have hB' : B + 420000000 + ws.length * 420000000 ≤ 1000000000000 := by simp at hB; omega
    have hrd : ∀ i : Nat, i < b.toNat → rd (addVis (f x) x.f5 S (vis b x)) i = rd S i + f x * rd (vis b x) i * x.f5 := fun i hi => by
      unfold addVis
      rw [rd_zipWith (by omega) (by omega)]
      have a1 := hm1 i
      have a2 := hm2 i
      have a3 := hS i
      rw [w64 (x := x.f5) (by omega) (by omega), w64 (x := f x * rd (vis b x) i) (by omega) (by omega), w64 (x := f x * rd (vis b x) i * x.f5) (by omega) (by omega), w64 (by omega) (by omega)]
    have hbd : ∀ i : Nat, (rd (addVis (f x) x.f5 S (vis b x)) i).natAbs ≤ B + 420000000 := fun i => by
      by_cases hi : i < b.toNat
      · rw [hrd i hi]; have := hS i; have := hm2 i; omega
      · have : rd (addVis (f x) x.f5 S (vis b x)) i = 0 := by simp only [rd, Int.toNat_natCast]; rw [List.getD_eq_getElem?_getD, List.getElem?_eq_none (by omega)]; rfl
        rw [this]; simp
    obtain ⟨S', hev, hl', hS'⟩ := walkSums_ev hb hb1 f ws (addVis (f x) x.f5 S (vis b x)) (B + 420000000) (fun y hy => hw y (List.mem_cons_of_mem _ hy)) (fun y hy => hf y (List.mem_cons_of_mem _ hy)) hlen hbd hB'
    refine ⟨S', ?_, hl', fun i hi => ⟨?_, (hS' i hi).2⟩⟩
    · refine Ev.congr (fun k => ?_) (Ev.bind (implVisits_ev hb hb1 hx) (f := fun k vs => if (vs : List Int).length = S.length then walkSums k b f ws (addVis (f x) x.f5 S vs) else none) (Ev.congr (fun k => ?_) hev))
      · rfl
      · rw [if_pos (by omega)]
    · rw [(hS' i hi).1, hrd i hi, sumAt]; omega
theorem walked_ev {r : List Int} (hb : 1 ≤ r.length) (hb1 : r.length ≤ 60) (hr : ∀ y ∈ r, 0 ≤ y ∧ y ≤ 255) (f : S38 → Int) (ws : List S38) (hl : ws.length ≤ 8) (hw : ∀ x ∈ ws, WOk r.length x) (hf : ∀ x ∈ ws, (f x).natAbs ≤ 1000000) :
    Ev (fun k => walkedF k r ws f) (rowBy f ws r) := by
  obtain ⟨S, hev, hl', hS⟩ := walkSums_ev (b := r.length) (by omega) (by omega) f ws (List.replicate r.length 0) 0 hw hf (by simp) (fun i => by simp only [rd, List.getD_eq_getElem?_getD]; rw [List.getElem?_replicate]; split <;> simp) (by omega)
  refine Ev.congr (fun k => rfl) (Ev.bind hev (Ev.some fun k => ?_))
  rw [if_pos ⟨by omega, by omega⟩]
  congr 1
  refine ext_rd (by simp [rowBy_len]; omega) (fun i hi => ?_)
  have hi' : i < r.length := by simp at hi; omega
  have hr' := hr _ (List.getElem_mem hi')
  obtain ⟨e, hbd⟩ := hS i (by omega)
  have z : rd (List.replicate r.length 0) (i : Int) = 0 := by rw [rd_lt (by simpa using hi')]; simp
  rw [rd_zipWith hi' (by omega), rowBy_rd hi', eighth_eq]
  rw [rd_lt hi'] at *
  rw [w64 (x := r[i]) (by omega) (by omega), w64 (by omega) (by omega), e, z]; omega
end Go.Proofs.Ytmheflciiodhdaa.P
-- Written by wip/tools/mkprint.py of this repo, over the kit's print, out of the translation; Lean checks it.
namespace Go.Proofs.Ytmheflciiodhdaa.P
open Go.RowKit Go.Proofs.YtmheflciiodhdaaW.PrintWords Go.Proofs.YtmheflciiodhdaaW.PrintLast Go.Proofs.YtmheflciiodhdaaW.PrintMore
attribute [local go_sem] max2_int min2_int max_two min_two max_three min_three max_four min_four   -- for this text's walks alone
set_option linter.unusedVariables false
set_option linter.unusedSimpArgs false
/-! ### spec_l00In: function 102 -/
def spec_l00In.f (a0 : Int) (a1 : Int) (a2 : Int) : Option (Bool) := if a0 ≥ a1 then (some (decide (a0 ≤ a2))) else (some false)
set_option maxHeartbeats 8000000 in
set_option maxRecDepth 100000 in
theorem spec_l00In.calls (a0 : Int) (a1 : Int) (a2 : Int) (r : Bool) (w : World) (h : spec_l00In.f a0 a1 a2 = some r) :
    Calls Try.prog 102 #[.int .i64 a0, .int .i64 a1, .int .i64 a2] w fun e w' => e = .returned (.bool r) ∧ Drawn0 w w' := by
  have H : (if a0 ≥ a1 then (some (decide (a0 ≤ a2))) else (some false)) = some r := h
  clear h
  by_cases c4 : a0 ≥ a1
  · rw [if_pos c4] at H
    have c4b0 : decide (a1 ≤ a0) = true := decide_eq_true c4
    clear c4
    obtain rfl := Option.some.inj H
    go_enter Try.func102, Try.ntmps102
    go_wp2
    go_ret
    exact ⟨by first | rfl | (simp; done) | (simp [*]; done), by repeat (first | exact Drawn0.refl _ | apply Drawn0.step)⟩
  · rw [if_neg c4] at H
    have c4b0 : decide (a1 ≤ a0) = false := decide_eq_false c4
    clear c4
    obtain rfl := Option.some.inj H
    go_enter Try.func102, Try.ntmps102
    go_wp2
    go_ret
    exact ⟨by first | rfl | (simp; done) | (simp [*]; done), by repeat (first | exact Drawn0.refl _ | apply Drawn0.step)⟩
end Go.Proofs.Ytmheflciiodhdaa.P
-- Written by wip/tools/mkprint.py of this repo, over the kit's print, out of the translation; Lean checks it.
namespace Go.Proofs.Ytmheflciiodhdaa.P
open Go.RowKit Go.Proofs.YtmheflciiodhdaaW.PrintWords Go.Proofs.YtmheflciiodhdaaW.PrintLast Go.Proofs.YtmheflciiodhdaaW.PrintMore
attribute [local go_sem] max2_int min2_int max_two min_two max_three min_three max_four min_four   -- for this text's walks alone
set_option linter.unusedVariables false
set_option linter.unusedSimpArgs false
/-! ### spec_l05Walker: function 119 -/
def spec_l05Walker.j0 : Nat → Bool → Int → Int → Int → Int → Int → Int → Option (Bool)
  | 0, _, _, _, _, _, _, _ => none
  | k + 1, x25, x191000, x191001, x191002, x191003, x191004, x191005 => if x25 = true then (some false) else ((spec_l00In.f (wrap64 (x191003)) 0 60).bind fun t194 => (if t194 = true then ((spec_l00In.f (wrap64 (x191004)) 1 60).bind fun t195 => (if t195 = true then ((spec_l00In.f (wrap64 (x191005)) (-7) 7).bind fun t196 => (some t196)) else (some false))) else (some false)))
def spec_l05Walker.f (k : Nat) (a0 : Int) (a1_0 : Int) (a1_1 : Int) (a1_2 : Int) (a1_3 : Int) (a1_4 : Int) (a1_5 : Int) : Option (Bool) := (spec_l00In.f (wrap64 (a1_0)) 0 10000).bind fun t191 => (if t191 = true then ((spec_l00In.f (wrap64 (a1_1)) 1 100).bind fun t192 => (if t192 = true then ((spec_l00In.f (wrap64 (a1_2)) 0 (wrap64 (a0 - 1))).bind fun t193 => (spec_l05Walker.j0 k (!t193) a1_0 a1_1 a1_2 a1_3 a1_4 a1_5)) else (spec_l05Walker.j0 k true a1_0 a1_1 a1_2 a1_3 a1_4 a1_5))) else (spec_l05Walker.j0 k true a1_0 a1_1 a1_2 a1_3 a1_4 a1_5))
theorem spec_l05Walker.mono_l : ∀ k, (∀ y0 y1 y2 y3 y4 y5 y6, LeO (spec_l05Walker.j0 k y0 y1 y2 y3 y4 y5 y6) (spec_l05Walker.j0 (k + 1) y0 y1 y2 y3 y4 y5 y6))
  | 0 => fun _ _ _ _ _ _ _ r h => by simp [spec_l05Walker.j0] at h
  | k + 1 => by
    have ih0 := spec_l05Walker.mono_l k
    · intro y0 y1 y2 y3 y4 y5 y6
      unfold spec_l05Walker.j0
      repeat' first
      | (with_reducible exact ih0 _ _ _ _ _ _ _)
      | (with_reducible exact LeO.refl _)
      | (with_reducible exact LeO.none _)
      | (with_reducible refine LeO.ite ?_ ?_)
      | (with_reducible refine LeO.bind ?_ (fun _ => ?_))
      | exact ih0 _ _ _ _ _ _ _
      | exact LeO.none _
      | refine LeO.ite ?_ ?_
      | refine LeO.bind ?_ (fun _ => ?_)
theorem spec_l05Walker.mono : ∀ a0 a1 a2 a3 a4 a5 a6 k, LeO (spec_l05Walker.f k a0 a1 a2 a3 a4 a5 a6) (spec_l05Walker.f (k + 1) a0 a1 a2 a3 a4 a5 a6) := by
  intro a0 a1 a2 a3 a4 a5 a6 k
  have ih0 := spec_l05Walker.mono_l k
  unfold spec_l05Walker.f
  repeat' first
      | (with_reducible exact ih0 _ _ _ _ _ _ _)
      | (with_reducible exact LeO.refl _)
      | (with_reducible exact LeO.none _)
      | (with_reducible refine LeO.ite ?_ ?_)
      | (with_reducible refine LeO.bind ?_ (fun _ => ?_))
      | exact ih0 _ _ _ _ _ _ _
      | exact LeO.none _
      | refine LeO.ite ?_ ?_
      | refine LeO.bind ?_ (fun _ => ?_)
set_option maxHeartbeats 8000000 in
set_option maxRecDepth 100000 in
theorem spec_l05Walker.calls (k : Nat) (a0 : Int) (a1_0 : Int) (a1_1 : Int) (a1_2 : Int) (a1_3 : Int) (a1_4 : Int) (a1_5 : Int) (r : Bool) (w : World) (h : spec_l05Walker.f k a0 a1_0 a1_1 a1_2 a1_3 a1_4 a1_5 = some r) :
    Calls Try.prog 119 #[.int .i64 a0, .agg #[.int .i16 a1_0, .int .i16 a1_1, .int .i16 a1_2, .int .i16 a1_3, .int .i16 a1_4, .int .i8 a1_5]] w fun e w' => e = .returned (.bool r) ∧ Below w.heap.size w w' := by
  have hu38 := Try.underlying38
  have HB := Aside0.mk (Below.refl w.heap.size w)
  have H : ((spec_l00In.f (wrap64 (a1_0)) 0 10000).bind fun t191 => (if t191 = true then ((spec_l00In.f (wrap64 (a1_1)) 1 100).bind fun t192 => (if t192 = true then ((spec_l00In.f (wrap64 (a1_2)) 0 (wrap64 (a0 - 1))).bind fun t193 => (spec_l05Walker.j0 k (!t193) a1_0 a1_1 a1_2 a1_3 a1_4 a1_5)) else (spec_l05Walker.j0 k true a1_0 a1_1 a1_2 a1_3 a1_4 a1_5))) else (spec_l05Walker.j0 k true a1_0 a1_1 a1_2 a1_3 a1_4 a1_5))) = some r := h
  clear h
  have HC3 := Aside0.mk H
  clear H
  go_enter Try.func119, Try.ntmps119
  go_upto_region 1 with (first | ((with_reducible refine gate_dst (N := 3) rfl ?_); refine box_event ?hg (N := 3) ?hd (cs := #[.int .i16 a1_0, .int .i16 a1_1, .int .i16 a1_2, .int .i16 a1_3, .int .i16 a1_4, .int .i8 a1_5]) (t := 38) ?hr ?_; (case hd => rfl); (case hg => rfl); (case hr => first | (go_simp; done) | (go_simp; rfl)); intro gb190 hg w4 hbox hb; have n0_ := Aside0.mk (below_step (by repeat (first | (with_reducible first | exact HB.out | apply below_alloc | apply pw_below_drewN | apply below_drew1) | exact HB.out)) hb); have n1_ := Aside0.mk (hbox); have n2_ := Aside0.mk ((by rw [hg]; exact (below_size (by repeat (first | (with_reducible first | exact HB.out | apply below_alloc | apply pw_below_drewN | apply below_drew1) | exact HB.out))) : w.heap.size ≤ gb190)); have n3_ := Aside0.mk ((by rw [hg]; exact (below_size (by repeat (first | (with_reducible first | exact HB.out | apply below_alloc | apply pw_below_drewN | apply below_drew1) | exact HB.out))) : w.heap.size ≤ gb190)); clear HB; have HB := n0_; have BK190 := n1_; have GW190 := n2_; have GE190 := n3_; clear n0_ n1_ n2_ n3_; clear hb hbox hg))
  (try simp only [Act.put, List.setIfInBounds_toArray, List.set_cons_zero, List.set_cons_succ])
  go_cut [25] (fun v25 wc => ∃ (kq : Nat) (x25_2 : Bool), v25 = .bool x25_2 ∧ Aside0 (spec_l05Walker.j0 kq x25_2 a1_0 a1_1 a1_2 a1_3 a1_4 a1_5 = some r) ∧ Aside0 (kq ≤ k) ∧ Aside0 (wc.heap[gb190]? = some (.cells #[.int .i16 a1_0, .int .i16 a1_1, .int .i16 a1_2, .int .i16 a1_3, .int .i16 a1_4, .int .i8 a1_5] 38 (0, 0))) ∧ Aside0 (Below w.heap.size w wc))
  case first =>
    have H := HC3.out
    clear HC3
    replace H := Option.bind_eq_some_iff.mp H
    obtain ⟨t191, A50, H⟩ := H
    replace H : (if t191 = true then ((spec_l00In.f (wrap64 (a1_1)) 1 100).bind fun t192 => (if t192 = true then ((spec_l00In.f (wrap64 (a1_2)) 0 (wrap64 (a0 - 1))).bind fun t193 => (spec_l05Walker.j0 k (!t193) a1_0 a1_1 a1_2 a1_3 a1_4 a1_5)) else (spec_l05Walker.j0 k true a1_0 a1_1 a1_2 a1_3 a1_4 a1_5))) else (spec_l05Walker.j0 k true a1_0 a1_1 a1_2 a1_3 a1_4 a1_5)) = some r := H
    have A5 := Aside0.mk A50
    clear A50
    by_cases c6 : t191 = true
    · subst c6
      have H1 : ((spec_l00In.f (wrap64 (a1_1)) 1 100).bind fun t192 => (if t192 = true then ((spec_l00In.f (wrap64 (a1_2)) 0 (wrap64 (a0 - 1))).bind fun t193 => (spec_l05Walker.j0 k (!t193) a1_0 a1_1 a1_2 a1_3 a1_4 a1_5)) else (spec_l05Walker.j0 k true a1_0 a1_1 a1_2 a1_3 a1_4 a1_5))) = some r := by rw [if_pos rfl] at H; exact H
      clear H
      have H := H1
      clear H1
      replace H := Option.bind_eq_some_iff.mp H
      obtain ⟨t192, A70, H⟩ := H
      replace H : (if t192 = true then ((spec_l00In.f (wrap64 (a1_2)) 0 (wrap64 (a0 - 1))).bind fun t193 => (spec_l05Walker.j0 k (!t193) a1_0 a1_1 a1_2 a1_3 a1_4 a1_5)) else (spec_l05Walker.j0 k true a1_0 a1_1 a1_2 a1_3 a1_4 a1_5)) = some r := H
      have A7 := Aside0.mk A70
      clear A70
      by_cases c8 : t192 = true
      · subst c8
        have H1 : ((spec_l00In.f (wrap64 (a1_2)) 0 (wrap64 (a0 - 1))).bind fun t193 => (spec_l05Walker.j0 k (!t193) a1_0 a1_1 a1_2 a1_3 a1_4 a1_5)) = some r := by rw [if_pos rfl] at H; exact H
        clear H
        have H := H1
        clear H1
        replace H := Option.bind_eq_some_iff.mp H
        obtain ⟨t193, A90, H⟩ := H
        replace H : (spec_l05Walker.j0 k (!t193) a1_0 a1_1 a1_2 a1_3 a1_4 a1_5) = some r := H
        have A9 := Aside0.mk A90
        clear A90
        have H' := Aside0.mk H
        clear H
        have hcz10_0 : w4.cell? ⟨gb190, 0, none⟩ = some (.int .i16 a1_0) := (blk_cell BK190.out 0).trans rfl
        have hcz10_1 : w4.cell? ⟨gb190, 1, none⟩ = some (.int .i16 a1_1) := (blk_cell BK190.out 1).trans rfl
        have hcz10_2 : w4.cell? ⟨gb190, 2, none⟩ = some (.int .i16 a1_2) := (blk_cell BK190.out 2).trans rfl
        have hcz10_3 : w4.cell? ⟨gb190, 3, none⟩ = some (.int .i16 a1_3) := (blk_cell BK190.out 3).trans rfl
        have hcz10_4 : w4.cell? ⟨gb190, 4, none⟩ = some (.int .i16 a1_4) := (blk_cell BK190.out 4).trans rfl
        have hcz10_5 : w4.cell? ⟨gb190, 5, none⟩ = some (.int .i8 a1_5) := (blk_cell BK190.out 5).trans rfl
        have hfz10_0 := blk_frozen BK190.out 0
        have hfz10_1 := blk_frozen BK190.out 1
        have hfz10_2 := blk_frozen BK190.out 2
        have hfz10_3 := blk_frozen BK190.out 3
        have hfz10_4 := blk_frozen BK190.out 4
        have hfz10_5 := blk_frozen BK190.out 5
        go_wp2_with (first | ((with_reducible refine gate_callee (f := 102) rfl ?_); refine goesL_ (some 8) rfl rfl Try.func102 (by kernel_rfl) rfl #[.int .i64 (wrap64 (a1_0)), .int .i64 0, .int .i64 10000] rfl (by (try simp only [List.map_toArray, List.map_cons, List.map_nil]); first | done | rfl | (simp only [List.length_drop, List.length_take]; rfl)) ?_; (with_reducible refine (spec_l00In.calls (wrap64 (a1_0)) 0 10000 true _ A5.out).mono ?_); rintro e w' ⟨rfl, ⟨nd, rfl⟩⟩; refine ⟨_, rfl, ?_⟩) | (go_at_call 102; (with_reducible refine (spec_l00In.calls (wrap64 (a1_1)) 1 100 true _ A7.out).mono ?_); rintro e w' ⟨rfl, ⟨nd, rfl⟩⟩) | (go_at_call 102; (with_reducible refine (spec_l00In.calls (wrap64 (a1_2)) 0 (wrap64 (a0 - 1)) t193 _ A9.out).mono ?_); rintro e w' ⟨rfl, ⟨nd, rfl⟩⟩))
        go_meet
        case rel => exact ⟨_, (!t193), (by first | rfl | (simp; done) | (simp [*]; done)), H', ⟨by first | omega | exact Nat.le_refl _⟩, ⟨by (with_reducible repeat (first | refine blk_drewN ?_ _ | refine blk_drew ?_ | refine blk_alloc ?_ _)); exact BK190.out⟩, ⟨by repeat (first | (with_reducible first | exact HB.out | apply below_alloc | apply pw_below_drewN | apply below_drew1 | refine below_set ?_ GE190.out) | exact HB.out)⟩⟩
      · replace c8 := Bool.eq_false_iff.mpr c8
        subst c8
        have H1 : (spec_l05Walker.j0 k true a1_0 a1_1 a1_2 a1_3 a1_4 a1_5) = some r := by rw [if_neg (show ¬ (false = true) by decide)] at H; exact H
        clear H
        have H := H1
        clear H1
        have H' := Aside0.mk H
        clear H
        have hcz11_0 : w4.cell? ⟨gb190, 0, none⟩ = some (.int .i16 a1_0) := (blk_cell BK190.out 0).trans rfl
        have hcz11_1 : w4.cell? ⟨gb190, 1, none⟩ = some (.int .i16 a1_1) := (blk_cell BK190.out 1).trans rfl
        have hcz11_2 : w4.cell? ⟨gb190, 2, none⟩ = some (.int .i16 a1_2) := (blk_cell BK190.out 2).trans rfl
        have hcz11_3 : w4.cell? ⟨gb190, 3, none⟩ = some (.int .i16 a1_3) := (blk_cell BK190.out 3).trans rfl
        have hcz11_4 : w4.cell? ⟨gb190, 4, none⟩ = some (.int .i16 a1_4) := (blk_cell BK190.out 4).trans rfl
        have hcz11_5 : w4.cell? ⟨gb190, 5, none⟩ = some (.int .i8 a1_5) := (blk_cell BK190.out 5).trans rfl
        have hfz11_0 := blk_frozen BK190.out 0
        have hfz11_1 := blk_frozen BK190.out 1
        have hfz11_2 := blk_frozen BK190.out 2
        have hfz11_3 := blk_frozen BK190.out 3
        have hfz11_4 := blk_frozen BK190.out 4
        have hfz11_5 := blk_frozen BK190.out 5
        go_wp2_with (first | ((with_reducible refine gate_callee (f := 102) rfl ?_); refine goesL_ (some 8) rfl rfl Try.func102 (by kernel_rfl) rfl #[.int .i64 (wrap64 (a1_0)), .int .i64 0, .int .i64 10000] rfl (by (try simp only [List.map_toArray, List.map_cons, List.map_nil]); first | done | rfl | (simp only [List.length_drop, List.length_take]; rfl)) ?_; (with_reducible refine (spec_l00In.calls (wrap64 (a1_0)) 0 10000 true _ A5.out).mono ?_); rintro e w' ⟨rfl, ⟨nd, rfl⟩⟩; refine ⟨_, rfl, ?_⟩) | (go_at_call 102; (with_reducible refine (spec_l00In.calls (wrap64 (a1_1)) 1 100 false _ A7.out).mono ?_); rintro e w' ⟨rfl, ⟨nd, rfl⟩⟩))
        go_meet
        case rel => exact ⟨_, (true), (by first | rfl | (simp; done) | (simp [*]; done)), H', ⟨by first | omega | exact Nat.le_refl _⟩, ⟨by (with_reducible repeat (first | refine blk_drewN ?_ _ | refine blk_drew ?_ | refine blk_alloc ?_ _)); exact BK190.out⟩, ⟨by repeat (first | (with_reducible first | exact HB.out | apply below_alloc | apply pw_below_drewN | apply below_drew1 | refine below_set ?_ GE190.out) | exact HB.out)⟩⟩
    · replace c6 := Bool.eq_false_iff.mpr c6
      subst c6
      have H1 : (spec_l05Walker.j0 k true a1_0 a1_1 a1_2 a1_3 a1_4 a1_5) = some r := by rw [if_neg (show ¬ (false = true) by decide)] at H; exact H
      clear H
      have H := H1
      clear H1
      have H' := Aside0.mk H
      clear H
      have hcz12_0 : w4.cell? ⟨gb190, 0, none⟩ = some (.int .i16 a1_0) := (blk_cell BK190.out 0).trans rfl
      have hcz12_1 : w4.cell? ⟨gb190, 1, none⟩ = some (.int .i16 a1_1) := (blk_cell BK190.out 1).trans rfl
      have hcz12_2 : w4.cell? ⟨gb190, 2, none⟩ = some (.int .i16 a1_2) := (blk_cell BK190.out 2).trans rfl
      have hcz12_3 : w4.cell? ⟨gb190, 3, none⟩ = some (.int .i16 a1_3) := (blk_cell BK190.out 3).trans rfl
      have hcz12_4 : w4.cell? ⟨gb190, 4, none⟩ = some (.int .i16 a1_4) := (blk_cell BK190.out 4).trans rfl
      have hcz12_5 : w4.cell? ⟨gb190, 5, none⟩ = some (.int .i8 a1_5) := (blk_cell BK190.out 5).trans rfl
      have hfz12_0 := blk_frozen BK190.out 0
      have hfz12_1 := blk_frozen BK190.out 1
      have hfz12_2 := blk_frozen BK190.out 2
      have hfz12_3 := blk_frozen BK190.out 3
      have hfz12_4 := blk_frozen BK190.out 4
      have hfz12_5 := blk_frozen BK190.out 5
      go_wp2_with (first | ((with_reducible refine gate_callee (f := 102) rfl ?_); refine goesL_ (some 8) rfl rfl Try.func102 (by kernel_rfl) rfl #[.int .i64 (wrap64 (a1_0)), .int .i64 0, .int .i64 10000] rfl (by (try simp only [List.map_toArray, List.map_cons, List.map_nil]); first | done | rfl | (simp only [List.length_drop, List.length_take]; rfl)) ?_; (with_reducible refine (spec_l00In.calls (wrap64 (a1_0)) 0 10000 false _ A5.out).mono ?_); rintro e w' ⟨rfl, ⟨nd, rfl⟩⟩; refine ⟨_, rfl, ?_⟩))
      go_meet
      case rel => exact ⟨_, (true), (by first | rfl | (simp; done) | (simp [*]; done)), H', ⟨by first | omega | exact Nat.le_refl _⟩, ⟨by (with_reducible repeat (first | refine blk_drewN ?_ _ | refine blk_drew ?_ | refine blk_alloc ?_ _)); exact BK190.out⟩, ⟨by repeat (first | (with_reducible first | exact HB.out | apply below_alloc | apply pw_below_drewN | apply below_drew1 | refine below_set ?_ GE190.out) | exact HB.out)⟩⟩
  case rest =>
    clear HC3
    try clear c1
    try clear p2
    try clear c6
    try clear p6
    try clear c8
    try clear c10
    try clear c11
    try clear hcz10_0
    try clear hcz10_1
    try clear hcz10_2
    try clear hcz10_3
    try clear hcz10_4
    try clear hcz10_5
    try clear hcz11_0
    try clear hcz11_1
    try clear hcz11_2
    try clear hcz11_3
    try clear hcz11_4
    try clear hcz11_5
    try clear hcz12_0
    try clear hcz12_1
    try clear hcz12_2
    try clear hcz12_3
    try clear hcz12_4
    try clear hcz12_5
    try clear hfz10_0
    try clear hfz10_1
    try clear hfz10_2
    try clear hfz10_3
    try clear hfz10_4
    try clear hfz10_5
    try clear hfz11_0
    try clear hfz11_1
    try clear hfz11_2
    try clear hfz11_3
    try clear hfz11_4
    try clear hfz11_5
    try clear hfz12_0
    try clear hfz12_1
    try clear hfz12_2
    try clear hfz12_3
    try clear hfz12_4
    try clear hfz12_5
    obtain ⟨kq, x25_2, rfl, HA, HJ2, BK190, HB⟩ := hcut
    cases kq with
    | zero => exact absurd HA.out (by simp [spec_l05Walker.j0])
    | succ kj2 =>
      have H := HA.out
      clear HA
      simp only [spec_l05Walker.j0] at H
      by_cases c13 : x25_2 = true
      · subst c13
        have H1 : (some false) = some r := by rw [if_pos rfl] at H; exact H
        clear H
        have H := H1
        clear H1
        obtain rfl := Option.some.inj H
        go_wp2
        go_ret
        exact ⟨by first | rfl | (simp [errW_none, errW_some] <;> rfl) | (simp [*, errW_none, errW_some] <;> rfl), by repeat (first | (with_reducible first | exact HB.out | apply below_alloc | apply pw_below_drewN | apply below_drew1 | refine below_set ?_ GE190.out) | exact HB.out)⟩
      · replace c13 := Bool.eq_false_iff.mpr c13
        subst c13
        have H1 : ((spec_l00In.f (wrap64 (a1_3)) 0 60).bind fun t194 => (if t194 = true then ((spec_l00In.f (wrap64 (a1_4)) 1 60).bind fun t195 => (if t195 = true then ((spec_l00In.f (wrap64 (a1_5)) (-7) 7).bind fun t196 => (some t196)) else (some false))) else (some false))) = some r := by rw [if_neg (show ¬ (false = true) by decide)] at H; exact H
        clear H
        have H := H1
        clear H1
        replace H := Option.bind_eq_some_iff.mp H
        obtain ⟨t194, A140, H⟩ := H
        replace H : (if t194 = true then ((spec_l00In.f (wrap64 (a1_4)) 1 60).bind fun t195 => (if t195 = true then ((spec_l00In.f (wrap64 (a1_5)) (-7) 7).bind fun t196 => (some t196)) else (some false))) else (some false)) = some r := H
        have A14 := Aside0.mk A140
        clear A140
        by_cases c15 : t194 = true
        · subst c15
          have H1 : ((spec_l00In.f (wrap64 (a1_4)) 1 60).bind fun t195 => (if t195 = true then ((spec_l00In.f (wrap64 (a1_5)) (-7) 7).bind fun t196 => (some t196)) else (some false))) = some r := by rw [if_pos rfl] at H; exact H
          clear H
          have H := H1
          clear H1
          replace H := Option.bind_eq_some_iff.mp H
          obtain ⟨t195, A160, H⟩ := H
          replace H : (if t195 = true then ((spec_l00In.f (wrap64 (a1_5)) (-7) 7).bind fun t196 => (some t196)) else (some false)) = some r := H
          have A16 := Aside0.mk A160
          clear A160
          by_cases c17 : t195 = true
          · subst c17
            have H1 : ((spec_l00In.f (wrap64 (a1_5)) (-7) 7).bind fun t196 => (some t196)) = some r := by rw [if_pos rfl] at H; exact H
            clear H
            have H := H1
            clear H1
            replace H := Option.bind_eq_some_iff.mp H
            obtain ⟨t196, A180, H⟩ := H
            replace H : (some t196) = some r := H
            have A18 := Aside0.mk A180
            clear A180
            obtain rfl := Option.some.inj H
            have hcz19_0 : wc.cell? ⟨gb190, 0, none⟩ = some (.int .i16 a1_0) := (blk_cell BK190.out 0).trans rfl
            have hcz19_1 : wc.cell? ⟨gb190, 1, none⟩ = some (.int .i16 a1_1) := (blk_cell BK190.out 1).trans rfl
            have hcz19_2 : wc.cell? ⟨gb190, 2, none⟩ = some (.int .i16 a1_2) := (blk_cell BK190.out 2).trans rfl
            have hcz19_3 : wc.cell? ⟨gb190, 3, none⟩ = some (.int .i16 a1_3) := (blk_cell BK190.out 3).trans rfl
            have hcz19_4 : wc.cell? ⟨gb190, 4, none⟩ = some (.int .i16 a1_4) := (blk_cell BK190.out 4).trans rfl
            have hcz19_5 : wc.cell? ⟨gb190, 5, none⟩ = some (.int .i8 a1_5) := (blk_cell BK190.out 5).trans rfl
            have hfz19_0 := blk_frozen BK190.out 0
            have hfz19_1 := blk_frozen BK190.out 1
            have hfz19_2 := blk_frozen BK190.out 2
            have hfz19_3 := blk_frozen BK190.out 3
            have hfz19_4 := blk_frozen BK190.out 4
            have hfz19_5 := blk_frozen BK190.out 5
            go_wp2_with (first | ((with_reducible refine gate_callee (f := 102) rfl ?_); refine goesL_ (some 29) rfl rfl Try.func102 (by kernel_rfl) rfl #[.int .i64 (wrap64 (a1_3)), .int .i64 0, .int .i64 60] rfl (by (try simp only [List.map_toArray, List.map_cons, List.map_nil]); first | done | rfl | (simp only [List.length_drop, List.length_take]; rfl)) ?_; (with_reducible refine (spec_l00In.calls (wrap64 (a1_3)) 0 60 true _ A14.out).mono ?_); rintro e w' ⟨rfl, ⟨nd, rfl⟩⟩; refine ⟨_, rfl, ?_⟩) | (go_at_call 102; (with_reducible refine (spec_l00In.calls (wrap64 (a1_4)) 1 60 true _ A16.out).mono ?_); rintro e w' ⟨rfl, ⟨nd, rfl⟩⟩) | (go_at_call 102; (with_reducible refine (spec_l00In.calls (wrap64 (a1_5)) (-7) 7 t196 _ A18.out).mono ?_); rintro e w' ⟨rfl, ⟨nd, rfl⟩⟩))
            go_ret
            exact ⟨by first | rfl | (simp [errW_none, errW_some] <;> rfl) | (simp [*, errW_none, errW_some] <;> rfl), by repeat (first | (with_reducible first | exact HB.out | apply below_alloc | apply pw_below_drewN | apply below_drew1 | refine below_set ?_ GE190.out) | exact HB.out)⟩
          · replace c17 := Bool.eq_false_iff.mpr c17
            subst c17
            have H1 : (some false) = some r := by rw [if_neg (show ¬ (false = true) by decide)] at H; exact H
            clear H
            have H := H1
            clear H1
            obtain rfl := Option.some.inj H
            have hcz20_0 : wc.cell? ⟨gb190, 0, none⟩ = some (.int .i16 a1_0) := (blk_cell BK190.out 0).trans rfl
            have hcz20_1 : wc.cell? ⟨gb190, 1, none⟩ = some (.int .i16 a1_1) := (blk_cell BK190.out 1).trans rfl
            have hcz20_2 : wc.cell? ⟨gb190, 2, none⟩ = some (.int .i16 a1_2) := (blk_cell BK190.out 2).trans rfl
            have hcz20_3 : wc.cell? ⟨gb190, 3, none⟩ = some (.int .i16 a1_3) := (blk_cell BK190.out 3).trans rfl
            have hcz20_4 : wc.cell? ⟨gb190, 4, none⟩ = some (.int .i16 a1_4) := (blk_cell BK190.out 4).trans rfl
            have hcz20_5 : wc.cell? ⟨gb190, 5, none⟩ = some (.int .i8 a1_5) := (blk_cell BK190.out 5).trans rfl
            have hfz20_0 := blk_frozen BK190.out 0
            have hfz20_1 := blk_frozen BK190.out 1
            have hfz20_2 := blk_frozen BK190.out 2
            have hfz20_3 := blk_frozen BK190.out 3
            have hfz20_4 := blk_frozen BK190.out 4
            have hfz20_5 := blk_frozen BK190.out 5
            go_wp2_with (first | ((with_reducible refine gate_callee (f := 102) rfl ?_); refine goesL_ (some 29) rfl rfl Try.func102 (by kernel_rfl) rfl #[.int .i64 (wrap64 (a1_3)), .int .i64 0, .int .i64 60] rfl (by (try simp only [List.map_toArray, List.map_cons, List.map_nil]); first | done | rfl | (simp only [List.length_drop, List.length_take]; rfl)) ?_; (with_reducible refine (spec_l00In.calls (wrap64 (a1_3)) 0 60 true _ A14.out).mono ?_); rintro e w' ⟨rfl, ⟨nd, rfl⟩⟩; refine ⟨_, rfl, ?_⟩) | (go_at_call 102; (with_reducible refine (spec_l00In.calls (wrap64 (a1_4)) 1 60 false _ A16.out).mono ?_); rintro e w' ⟨rfl, ⟨nd, rfl⟩⟩))
            go_ret
            exact ⟨by first | rfl | (simp [errW_none, errW_some] <;> rfl) | (simp [*, errW_none, errW_some] <;> rfl), by repeat (first | (with_reducible first | exact HB.out | apply below_alloc | apply pw_below_drewN | apply below_drew1 | refine below_set ?_ GE190.out) | exact HB.out)⟩
        · replace c15 := Bool.eq_false_iff.mpr c15
          subst c15
          have H1 : (some false) = some r := by rw [if_neg (show ¬ (false = true) by decide)] at H; exact H
          clear H
          have H := H1
          clear H1
          obtain rfl := Option.some.inj H
          have hcz21_0 : wc.cell? ⟨gb190, 0, none⟩ = some (.int .i16 a1_0) := (blk_cell BK190.out 0).trans rfl
          have hcz21_1 : wc.cell? ⟨gb190, 1, none⟩ = some (.int .i16 a1_1) := (blk_cell BK190.out 1).trans rfl
          have hcz21_2 : wc.cell? ⟨gb190, 2, none⟩ = some (.int .i16 a1_2) := (blk_cell BK190.out 2).trans rfl
          have hcz21_3 : wc.cell? ⟨gb190, 3, none⟩ = some (.int .i16 a1_3) := (blk_cell BK190.out 3).trans rfl
          have hcz21_4 : wc.cell? ⟨gb190, 4, none⟩ = some (.int .i16 a1_4) := (blk_cell BK190.out 4).trans rfl
          have hcz21_5 : wc.cell? ⟨gb190, 5, none⟩ = some (.int .i8 a1_5) := (blk_cell BK190.out 5).trans rfl
          have hfz21_0 := blk_frozen BK190.out 0
          have hfz21_1 := blk_frozen BK190.out 1
          have hfz21_2 := blk_frozen BK190.out 2
          have hfz21_3 := blk_frozen BK190.out 3
          have hfz21_4 := blk_frozen BK190.out 4
          have hfz21_5 := blk_frozen BK190.out 5
          go_wp2_with (first | ((with_reducible refine gate_callee (f := 102) rfl ?_); refine goesL_ (some 29) rfl rfl Try.func102 (by kernel_rfl) rfl #[.int .i64 (wrap64 (a1_3)), .int .i64 0, .int .i64 60] rfl (by (try simp only [List.map_toArray, List.map_cons, List.map_nil]); first | done | rfl | (simp only [List.length_drop, List.length_take]; rfl)) ?_; (with_reducible refine (spec_l00In.calls (wrap64 (a1_3)) 0 60 false _ A14.out).mono ?_); rintro e w' ⟨rfl, ⟨nd, rfl⟩⟩; refine ⟨_, rfl, ?_⟩))
          go_ret
          exact ⟨by first | rfl | (simp [errW_none, errW_some] <;> rfl) | (simp [*, errW_none, errW_some] <;> rfl), by repeat (first | (with_reducible first | exact HB.out | apply below_alloc | apply pw_below_drewN | apply below_drew1 | refine below_set ?_ GE190.out) | exact HB.out)⟩
end Go.Proofs.Ytmheflciiodhdaa.P
-- Written by wip/tools/mkprint.py of this repo, over the kit's print, out of the translation; Lean checks it.
namespace Go.Proofs.Ytmheflciiodhdaa.P
open Go.RowKit Go.Proofs.YtmheflciiodhdaaW.PrintWords Go.Proofs.YtmheflciiodhdaaW.PrintLast Go.Proofs.YtmheflciiodhdaaW.PrintMore
attribute [local go_sem] max2_int min2_int max_two min_two max_three min_three max_four min_four   -- for this text's walks alone
set_option linter.unusedVariables false
set_option linter.unusedSimpArgs false
/-! ### spec_l05Walkers: function 114 -/
mutual
def spec_l05Walkers.j0 : Nat → Int → List (S38) → Bool → Option (Bool)
  | 0, _, _, _ => none
  | k + 1, x0, x1, x13 => if x13 = true then (some false) else (spec_l05Walkers.l0 k x0 x1 0)
def spec_l05Walkers.l0 : Nat → Int → List (S38) → Int → Option (Bool)
  | 0, _, _, _ => none
  | k + 1, x0, x1, x5 => if x5 < (x1.length : Int) then (if 0 ≤ x5 then ((spec_l05Walker.f k x0 ((rd_T38 x1 x5).f0) ((rd_T38 x1 x5).f1) ((rd_T38 x1 x5).f2) ((rd_T38 x1 x5).f3) ((rd_T38 x1 x5).f4) ((rd_T38 x1 x5).f5)).bind fun t199 => (if t199 = true then (spec_l05Walkers.l0 k x0 x1 (wrap64 (x5 + 1))) else (some false))) else (none)) else (some true)
end
def spec_l05Walkers.f (k : Nat) (a0 : Int) (l1 : List (S38)) : Option (Bool) := (spec_l00In.f a0 1 60).bind fun t197 => (if t197 = true then (spec_l05Walkers.j0 k a0 l1 (decide ((l1.length : Int) > 8))) else (spec_l05Walkers.j0 k a0 l1 true))
theorem spec_l05Walkers.mono_l : ∀ k, (∀ y0 y1 y2, LeO (spec_l05Walkers.j0 k y0 y1 y2) (spec_l05Walkers.j0 (k + 1) y0 y1 y2)) ∧ (∀ y0 y1 y2, LeO (spec_l05Walkers.l0 k y0 y1 y2) (spec_l05Walkers.l0 (k + 1) y0 y1 y2))
  | 0 => ⟨fun _ _ _ r h => by simp [spec_l05Walkers.j0] at h, fun _ _ _ r h => by simp [spec_l05Walkers.l0] at h⟩
  | k + 1 => by
    obtain ⟨ih0, ih1⟩ := spec_l05Walkers.mono_l k
    refine ⟨?_, ?_⟩
    · intro y0 y1 y2
      unfold spec_l05Walkers.j0
      repeat' first
      | (with_reducible exact ih0 _ _ _)
      | (with_reducible exact ih1 _ _ _)
      | (with_reducible exact spec_l05Walker.mono _ _ _ _ _ _ _ _)
      | (with_reducible exact LeO.refl _)
      | (with_reducible exact LeO.none _)
      | (with_reducible refine LeO.ite ?_ ?_)
      | (with_reducible refine LeO.bind ?_ (fun _ => ?_))
      | exact ih0 _ _ _
      | exact ih1 _ _ _
      | exact spec_l05Walker.mono _ _ _ _ _ _ _ _
      | exact LeO.none _
      | refine LeO.ite ?_ ?_
      | refine LeO.bind ?_ (fun _ => ?_)
    · intro y0 y1 y2
      unfold spec_l05Walkers.l0
      repeat' first
      | (with_reducible exact ih0 _ _ _)
      | (with_reducible exact ih1 _ _ _)
      | (with_reducible exact spec_l05Walker.mono _ _ _ _ _ _ _ _)
      | (with_reducible exact LeO.refl _)
      | (with_reducible exact LeO.none _)
      | (with_reducible refine LeO.ite ?_ ?_)
      | (with_reducible refine LeO.bind ?_ (fun _ => ?_))
      | exact ih0 _ _ _
      | exact ih1 _ _ _
      | exact spec_l05Walker.mono _ _ _ _ _ _ _ _
      | exact LeO.none _
      | refine LeO.ite ?_ ?_
      | refine LeO.bind ?_ (fun _ => ?_)
theorem spec_l05Walkers.mono : ∀ a0 a1 k, LeO (spec_l05Walkers.f k a0 a1) (spec_l05Walkers.f (k + 1) a0 a1) := by
  intro a0 a1 k
  obtain ⟨ih0, ih1⟩ := spec_l05Walkers.mono_l k
  unfold spec_l05Walkers.f
  repeat' first
      | (with_reducible exact ih0 _ _ _)
      | (with_reducible exact ih1 _ _ _)
      | (with_reducible exact spec_l05Walker.mono _ _ _ _ _ _ _ _)
      | (with_reducible exact LeO.refl _)
      | (with_reducible exact LeO.none _)
      | (with_reducible refine LeO.ite ?_ ?_)
      | (with_reducible refine LeO.bind ?_ (fun _ => ?_))
      | exact ih0 _ _ _
      | exact ih1 _ _ _
      | exact spec_l05Walker.mono _ _ _ _ _ _ _ _
      | exact LeO.none _
      | refine LeO.ite ?_ ?_
      | refine LeO.bind ?_ (fun _ => ?_)
set_option maxHeartbeats 8000000 in
set_option maxRecDepth 100000 in
theorem spec_l05Walkers.calls (k : Nat) (a0 : Int) (A1 : Option Addr) (c1 : Nat) (l1 : List (S38)) (r : Bool) (w : World) (hr1 : Kd.C k38 w A1 l1.length l1) (hc1 : l1.length ≤ c1) (h : spec_l05Walkers.f k a0 l1 = some r) :
    Calls Try.prog 114 #[.int .i64 a0, .slice A1 l1.length c1] w fun e w' => e = .returned (.bool r) ∧ Below w.heap.size w w' := by
  have hu38 := Try.underlying38
  have HR1 := Aside0.mk hr1
  have HC1 := Aside0.mk hc1
  clear hr1 hc1
  have HB := Aside0.mk (Below.refl w.heap.size w)
  have H : ((spec_l00In.f a0 1 60).bind fun t197 => (if t197 = true then (spec_l05Walkers.j0 k a0 l1 (decide ((l1.length : Int) > 8))) else (spec_l05Walkers.j0 k a0 l1 true))) = some r := h
  clear h
  have HC3 := Aside0.mk H
  clear H
  go_enter Try.func114, Try.ntmps114
  go_upto_region 1 with (fail)
  go_cut [13] (fun v13 wc => ∃ (kq : Nat) (x13_2 : Bool), v13 = .bool x13_2 ∧ Aside0 (spec_l05Walkers.j0 kq a0 l1 x13_2 = some r) ∧ Aside0 (kq ≤ k) ∧ Aside0 (Below w.heap.size w wc))
  case first =>
    have H := HC3.out
    clear HC3
    replace H := Option.bind_eq_some_iff.mp H
    obtain ⟨t197, A40, H⟩ := H
    replace H : (if t197 = true then (spec_l05Walkers.j0 k a0 l1 (decide ((l1.length : Int) > 8))) else (spec_l05Walkers.j0 k a0 l1 true)) = some r := H
    have A4 := Aside0.mk A40
    clear A40
    by_cases c5 : t197 = true
    · subst c5
      have H1 : (spec_l05Walkers.j0 k a0 l1 (decide ((l1.length : Int) > 8))) = some r := by rw [if_pos rfl] at H; exact H
      clear H
      have H := H1
      clear H1
      have H' := Aside0.mk H
      clear H
      go_wp2_with (first | ((with_reducible refine gate_callee (f := 102) rfl ?_); refine goesL_ (some 7) rfl rfl Try.func102 (by kernel_rfl) rfl #[.int .i64 a0, .int .i64 1, .int .i64 60] rfl (by (try simp only [List.map_toArray, List.map_cons, List.map_nil]); first | done | rfl | (simp only [List.length_drop, List.length_take]; rfl)) ?_; (with_reducible refine (spec_l00In.calls a0 1 60 true _ A4.out).mono ?_); rintro e w' ⟨rfl, ⟨nd, rfl⟩⟩; refine ⟨_, rfl, ?_⟩))
      go_meet
      case rel => exact ⟨_, (decide ((l1.length : Int) > 8)), (by first | rfl | (simp; done) | (simp [*]; done)), H', ⟨by first | omega | exact Nat.le_refl _⟩, ⟨by repeat (first | (with_reducible first | exact HB.out | apply below_alloc | apply pw_below_drewN | apply below_drew1) | exact HB.out)⟩⟩
    · replace c5 := Bool.eq_false_iff.mpr c5
      subst c5
      have H1 : (spec_l05Walkers.j0 k a0 l1 true) = some r := by rw [if_neg (show ¬ (false = true) by decide)] at H; exact H
      clear H
      have H := H1
      clear H1
      have H' := Aside0.mk H
      clear H
      go_wp2_with (first | ((with_reducible refine gate_callee (f := 102) rfl ?_); refine goesL_ (some 7) rfl rfl Try.func102 (by kernel_rfl) rfl #[.int .i64 a0, .int .i64 1, .int .i64 60] rfl (by (try simp only [List.map_toArray, List.map_cons, List.map_nil]); first | done | rfl | (simp only [List.length_drop, List.length_take]; rfl)) ?_; (with_reducible refine (spec_l00In.calls a0 1 60 false _ A4.out).mono ?_); rintro e w' ⟨rfl, ⟨nd, rfl⟩⟩; refine ⟨_, rfl, ?_⟩))
      go_meet
      case rel => exact ⟨_, (true), (by first | rfl | (simp; done) | (simp [*]; done)), H', ⟨by first | omega | exact Nat.le_refl _⟩, ⟨by repeat (first | (with_reducible first | exact HB.out | apply below_alloc | apply pw_below_drewN | apply below_drew1) | exact HB.out)⟩⟩
  case rest =>
    clear HC3
    try clear c1
    try clear p2
    try clear c5
    obtain ⟨kq, x13_2, rfl, HA, HJ2, HB⟩ := hcut
    cases kq with
    | zero => exact absurd HA.out (by simp [spec_l05Walkers.j0])
    | succ kj2 =>
      have H := HA.out
      clear HA
      simp only [spec_l05Walkers.j0] at H
      by_cases c6 : x13_2 = true
      · subst c6
        have H1 : (some false) = some r := by rw [if_pos rfl] at H; exact H
        clear H
        have H := H1
        clear H1
        obtain rfl := Option.some.inj H
        go_wp2
        go_ret
        exact ⟨by first | rfl | (simp [errW_none, errW_some] <;> rfl) | (simp [*, errW_none, errW_some] <;> rfl), by repeat (first | (with_reducible first | exact HB.out | apply below_alloc | apply pw_below_drewN | apply below_drew1) | exact HB.out)⟩
      · replace c6 := Bool.eq_false_iff.mpr c6
        subst c6
        have H1 : (spec_l05Walkers.l0 kj2 a0 l1 0) = some r := by rw [if_neg (show ¬ (false = true) by decide)] at H; exact H
        clear H
        have H := H1
        clear H1
        have H' := Aside0.mk H
        clear H
        go_wp2
        go_loopg [5] kj2 (fun kq v5 w' => ∃ (x5_2 : Int), v5 = .int .i64 x5_2 ∧ Aside0 (spec_l05Walkers.l0 kq a0 l1 x5_2 = some r) ∧ Aside0 (kq ≤ kj2) ∧ Aside0 (Below w.heap.size w w'))
        case atStart => exact ⟨(0), (by first | rfl | (simp; done) | (simp [*]; done)), H', ⟨Nat.le_refl _⟩, ⟨by repeat (first | (with_reducible first | exact HB.out | apply below_alloc | apply pw_below_drewN | apply below_drew1) | exact HB.out)⟩⟩
        case round =>
          clear H'
          try clear c1
          try clear p2
          try clear c5
          try clear c6
          try clear p2
          obtain ⟨x5_2, rfl, HA, HK2, HB⟩ := hrel
          cases gk with
          | zero => exact absurd HA.out (by simp [spec_l05Walkers.l0])
          | succ k2 =>
            have H := HA.out
            clear HA
            simp only [spec_l05Walkers.l0] at H
            by_cases c7 : x5_2 < (l1.length : Int)
            · rw [if_pos c7] at H
              have c7b0 : decide (x5_2 < (l1.length : Int)) = true := decide_eq_true c7
              clear c7
              by_cases c8 : 0 ≤ x5_2
              · rw [if_pos c8] at H
                have c8b0 : decide (0 ≤ x5_2) = true := decide_eq_true c8
                clear c8
                replace H := Option.bind_eq_some_iff.mp H
                obtain ⟨t199, A90, H⟩ := H
                replace H : (if t199 = true then (spec_l05Walkers.l0 k2 a0 l1 (wrap64 (x5_2 + 1))) else (some false)) = some r := H
                have A9 := Aside0.mk A90
                clear A90
                by_cases c10 : t199 = true
                · subst c10
                  have H1 : (spec_l05Walkers.l0 k2 a0 l1 (wrap64 (x5_2 + 1))) = some r := by rw [if_pos rfl] at H; exact H
                  clear H
                  have H := H1
                  clear H1
                  have H' := Aside0.mk H
                  clear H
                  have p198 : 0 ≤ (x5_2 : Int) := of_decide_eq_true (by first | (with_reducible assumption) | assumption)
                  have q198 : x5_2 < (l1.length : Int) := of_decide_eq_true (by first | (with_reducible assumption) | assumption)
                  obtain ⟨ad198, e198, hx198_0, hx198_1, hx198_2, hx198_3, hx198_4, hx198_5⟩ := at_T38 HR1.out x5_2 p198 q198
                  cases e198
                  replace hx198_0 := (HB.out.cell (World.block_lt_of_cell? w _ hx198_0)).trans hx198_0
                  replace hx198_1 := (HB.out.cell (World.block_lt_of_cell? w _ hx198_1)).trans hx198_1
                  replace hx198_2 := (HB.out.cell (World.block_lt_of_cell? w _ hx198_2)).trans hx198_2
                  replace hx198_3 := (HB.out.cell (World.block_lt_of_cell? w _ hx198_3)).trans hx198_3
                  replace hx198_4 := (HB.out.cell (World.block_lt_of_cell? w _ hx198_4)).trans hx198_4
                  replace hx198_5 := (HB.out.cell (World.block_lt_of_cell? w _ hx198_5)).trans hx198_5
                  replace p198 := eq_true p198
                  replace q198 := eq_true q198
                  go_wp2_with (first | ((with_reducible refine gate_callee (f := 119) rfl ?_); refine goesL_ (some 25) rfl rfl Try.func119 (by kernel_rfl) rfl #[.int .i64 a0, .agg #[.int .i16 ((rd_T38 l1 x5_2).f0), .int .i16 ((rd_T38 l1 x5_2).f1), .int .i16 ((rd_T38 l1 x5_2).f2), .int .i16 ((rd_T38 l1 x5_2).f3), .int .i16 ((rd_T38 l1 x5_2).f4), .int .i8 ((rd_T38 l1 x5_2).f5)]] rfl (by (try simp only [List.map_toArray, List.map_cons, List.map_nil]); first | done | rfl | (simp only [List.length_drop, List.length_take]; rfl)) ?_; (with_reducible refine (spec_l05Walker.calls k2 a0 ((rd_T38 l1 x5_2).f0) ((rd_T38 l1 x5_2).f1) ((rd_T38 l1 x5_2).f2) ((rd_T38 l1 x5_2).f3) ((rd_T38 l1 x5_2).f4) ((rd_T38 l1 x5_2).f5) true _ A9.out).mono ?_); rintro e w11 ⟨rfl, hb⟩; refine ⟨_, rfl, ?_⟩; have n0_ := Aside0.mk (below_step (by repeat (first | (with_reducible first | exact HB.out | apply below_alloc | apply pw_below_drewN | apply below_drew1) | exact HB.out)) hb); clear HB; have HB := n0_; clear n0_; (try clear hb); (try clear hb2); (try clear hk); (try clear hi)))
                  go_roundg k2
                  case measure => have := HJ2.out; have := HK2.out; omega
                  case rel => exact ⟨(wrap64 (x5_2 + 1)), (by first | rfl | (simp; done) | (simp [*]; done)), H', ⟨by have := HJ2.out; have := HK2.out; omega⟩, ⟨by repeat (first | (with_reducible first | exact HB.out | apply below_alloc | apply pw_below_drewN | apply below_drew1) | exact HB.out)⟩⟩
                · replace c10 := Bool.eq_false_iff.mpr c10
                  subst c10
                  have H1 : (some false) = some r := by rw [if_neg (show ¬ (false = true) by decide)] at H; exact H
                  clear H
                  have H := H1
                  clear H1
                  obtain rfl := Option.some.inj H
                  have p198 : 0 ≤ (x5_2 : Int) := of_decide_eq_true (by first | (with_reducible assumption) | assumption)
                  have q198 : x5_2 < (l1.length : Int) := of_decide_eq_true (by first | (with_reducible assumption) | assumption)
                  obtain ⟨ad198, e198, hx198_0, hx198_1, hx198_2, hx198_3, hx198_4, hx198_5⟩ := at_T38 HR1.out x5_2 p198 q198
                  cases e198
                  replace hx198_0 := (HB.out.cell (World.block_lt_of_cell? w _ hx198_0)).trans hx198_0
                  replace hx198_1 := (HB.out.cell (World.block_lt_of_cell? w _ hx198_1)).trans hx198_1
                  replace hx198_2 := (HB.out.cell (World.block_lt_of_cell? w _ hx198_2)).trans hx198_2
                  replace hx198_3 := (HB.out.cell (World.block_lt_of_cell? w _ hx198_3)).trans hx198_3
                  replace hx198_4 := (HB.out.cell (World.block_lt_of_cell? w _ hx198_4)).trans hx198_4
                  replace hx198_5 := (HB.out.cell (World.block_lt_of_cell? w _ hx198_5)).trans hx198_5
                  replace p198 := eq_true p198
                  replace q198 := eq_true q198
                  go_wp2_with (first | ((with_reducible refine gate_callee (f := 119) rfl ?_); refine goesL_ (some 25) rfl rfl Try.func119 (by kernel_rfl) rfl #[.int .i64 a0, .agg #[.int .i16 ((rd_T38 l1 x5_2).f0), .int .i16 ((rd_T38 l1 x5_2).f1), .int .i16 ((rd_T38 l1 x5_2).f2), .int .i16 ((rd_T38 l1 x5_2).f3), .int .i16 ((rd_T38 l1 x5_2).f4), .int .i8 ((rd_T38 l1 x5_2).f5)]] rfl (by (try simp only [List.map_toArray, List.map_cons, List.map_nil]); first | done | rfl | (simp only [List.length_drop, List.length_take]; rfl)) ?_; (with_reducible refine (spec_l05Walker.calls k2 a0 ((rd_T38 l1 x5_2).f0) ((rd_T38 l1 x5_2).f1) ((rd_T38 l1 x5_2).f2) ((rd_T38 l1 x5_2).f3) ((rd_T38 l1 x5_2).f4) ((rd_T38 l1 x5_2).f5) false _ A9.out).mono ?_); rintro e w12 ⟨rfl, hb⟩; refine ⟨_, rfl, ?_⟩; have n0_ := Aside0.mk (below_step (by repeat (first | (with_reducible first | exact HB.out | apply below_alloc | apply pw_below_drewN | apply below_drew1) | exact HB.out)) hb); clear HB; have HB := n0_; clear n0_; (try clear hb); (try clear hb2); (try clear hk); (try clear hi)))
                  go_ret
                  exact ⟨by first | rfl | (simp [errW_none, errW_some] <;> rfl) | (simp [*, errW_none, errW_some] <;> rfl), by repeat (first | (with_reducible first | exact HB.out | apply below_alloc | apply pw_below_drewN | apply below_drew1) | exact HB.out)⟩
              · rw [if_neg c8] at H
                exact absurd H (by simp)
            · rw [if_neg c7] at H
              have c7b0 : decide (x5_2 < (l1.length : Int)) = false := decide_eq_false c7
              clear c7
              obtain rfl := Option.some.inj H
              go_wp2
              go_ret
              exact ⟨by first | rfl | (simp [errW_none, errW_some] <;> rfl) | (simp [*, errW_none, errW_some] <;> rfl), by repeat (first | (with_reducible first | exact HB.out | apply below_alloc | apply pw_below_drewN | apply below_drew1) | exact HB.out)⟩
end Go.Proofs.Ytmheflciiodhdaa.P
-- Written by wip/tools/mkprint.py of this repo, over the kit's print, out of the translation; Lean checks it.
namespace Go.Proofs.Ytmheflciiodhdaa.P
open Go.RowKit Go.Proofs.YtmheflciiodhdaaW.PrintWords Go.Proofs.YtmheflciiodhdaaW.PrintLast Go.Proofs.YtmheflciiodhdaaW.PrintMore
attribute [local go_sem] max2_int min2_int max_two min_two max_three min_three max_four min_four   -- for this text's walks alone
set_option linter.unusedVariables false
set_option linter.unusedSimpArgs false
/-! ### spec_l05Asked: function 92 -/
def spec_l05Asked.f (k : Nat) (a0 : Int) (l1 : List (S38)) (a2 : Bool) : Option (Int) := (spec_l05Walkers.f k a0 l1).bind fun t200 => (if t200 = true then (if a2 = true then (some 0) else (some 2)) else (some 1))
theorem spec_l05Asked.mono : ∀ a0 a1 a2 k, LeO (spec_l05Asked.f k a0 a1 a2) (spec_l05Asked.f (k + 1) a0 a1 a2) := by
  intro a0 a1 a2 k
  unfold spec_l05Asked.f
  repeat' first
      | (with_reducible exact spec_l05Walkers.mono _ _ _)
      | (with_reducible exact LeO.refl _)
      | (with_reducible exact LeO.none _)
      | (with_reducible refine LeO.ite ?_ ?_)
      | (with_reducible refine LeO.bind ?_ (fun _ => ?_))
      | exact spec_l05Walkers.mono _ _ _
      | exact LeO.none _
      | refine LeO.ite ?_ ?_
      | refine LeO.bind ?_ (fun _ => ?_)
set_option maxHeartbeats 8000000 in
set_option maxRecDepth 100000 in
theorem spec_l05Asked.calls (k : Nat) (a0 : Int) (A1 : Option Addr) (c1 : Nat) (l1 : List (S38)) (a2 : Bool) (r : Int) (w : World) (hr1 : Kd.C k38 w A1 l1.length l1) (hc1 : l1.length ≤ c1) (h : spec_l05Asked.f k a0 l1 a2 = some r) :
    Calls Try.prog 92 #[.int .i64 a0, .slice A1 l1.length c1, .bool a2] w fun e w' => e = .returned (.int .i64 r) ∧ Below w.heap.size w w' := by
  have HR1 := Aside0.mk hr1
  have HC1 := Aside0.mk hc1
  clear hr1 hc1
  have HB := Aside0.mk (Below.refl w.heap.size w)
  have H : ((spec_l05Walkers.f k a0 l1).bind fun t200 => (if t200 = true then (if a2 = true then (some 0) else (some 2)) else (some 1))) = some r := h
  clear h
  replace H := Option.bind_eq_some_iff.mp H
  obtain ⟨t200, A40, H⟩ := H
  replace H : (if t200 = true then (if a2 = true then (some 0) else (some 2)) else (some 1)) = some r := H
  have A4 := Aside0.mk A40
  clear A40
  by_cases c5 : t200 = true
  · subst c5
    have H1 : (if a2 = true then (some 0) else (some 2)) = some r := by rw [if_pos rfl] at H; exact H
    clear H
    have H := H1
    clear H1
    by_cases c6 : a2 = true
    · subst c6
      have H1 : (some 0) = some r := by rw [if_pos rfl] at H; exact H
      clear H
      have H := H1
      clear H1
      obtain rfl := Option.some.inj H
      go_enter Try.func92, Try.ntmps92
      go_wp2_with (first | ((with_reducible refine gate_callee (f := 114) rfl ?_); refine goesL_ (some 9) rfl rfl Try.func114 (by kernel_rfl) rfl #[.int .i64 a0, .slice A1 l1.length c1] rfl (by (try simp only [List.map_toArray, List.map_cons, List.map_nil]); first | done | rfl | (simp only [List.length_drop, List.length_take]; rfl)) ?_; (with_reducible refine (spec_l05Walkers.calls k a0 _ _ l1 true _ ?side1 ?side2 A4.out).mono ?_); (case side1 => repeat (first | exact HR1.out | (with_reducible refine Kd.C_alloc ?_ _) | (with_reducible refine Kd.C_drewN ?_ _) | (with_reducible refine Kd.C_drew ?_))); (case side2 => exact HC1.out); rintro e w7 ⟨rfl, hb⟩; refine ⟨_, rfl, ?_⟩; have n0_ := Aside0.mk (below_step (by repeat (first | (with_reducible first | exact HB.out | apply below_alloc | apply pw_below_drewN | apply below_drew1) | exact HB.out)) hb); clear HB; have HB := n0_; clear n0_; (try clear hb); (try clear hb2); (try clear hk); (try clear hi)))
      go_ret
      exact ⟨by first | rfl | (simp [errW_none, errW_some] <;> rfl) | (simp [*, errW_none, errW_some] <;> rfl), by repeat (first | (with_reducible first | exact HB.out | apply below_alloc | apply pw_below_drewN | apply below_drew1) | exact HB.out)⟩
    · replace c6 := Bool.eq_false_iff.mpr c6
      subst c6
      have H1 : (some 2) = some r := by rw [if_neg (show ¬ (false = true) by decide)] at H; exact H
      clear H
      have H := H1
      clear H1
      obtain rfl := Option.some.inj H
      go_enter Try.func92, Try.ntmps92
      go_wp2_with (first | ((with_reducible refine gate_callee (f := 114) rfl ?_); refine goesL_ (some 9) rfl rfl Try.func114 (by kernel_rfl) rfl #[.int .i64 a0, .slice A1 l1.length c1] rfl (by (try simp only [List.map_toArray, List.map_cons, List.map_nil]); first | done | rfl | (simp only [List.length_drop, List.length_take]; rfl)) ?_; (with_reducible refine (spec_l05Walkers.calls k a0 _ _ l1 true _ ?side1 ?side2 A4.out).mono ?_); (case side1 => repeat (first | exact HR1.out | (with_reducible refine Kd.C_alloc ?_ _) | (with_reducible refine Kd.C_drewN ?_ _) | (with_reducible refine Kd.C_drew ?_))); (case side2 => exact HC1.out); rintro e w8 ⟨rfl, hb⟩; refine ⟨_, rfl, ?_⟩; have n0_ := Aside0.mk (below_step (by repeat (first | (with_reducible first | exact HB.out | apply below_alloc | apply pw_below_drewN | apply below_drew1) | exact HB.out)) hb); clear HB; have HB := n0_; clear n0_; (try clear hb); (try clear hb2); (try clear hk); (try clear hi)))
      go_ret
      exact ⟨by first | rfl | (simp [errW_none, errW_some] <;> rfl) | (simp [*, errW_none, errW_some] <;> rfl), by repeat (first | (with_reducible first | exact HB.out | apply below_alloc | apply pw_below_drewN | apply below_drew1) | exact HB.out)⟩
  · replace c5 := Bool.eq_false_iff.mpr c5
    subst c5
    have H1 : (some 1) = some r := by rw [if_neg (show ¬ (false = true) by decide)] at H; exact H
    clear H
    have H := H1
    clear H1
    obtain rfl := Option.some.inj H
    go_enter Try.func92, Try.ntmps92
    go_wp2_with (first | ((with_reducible refine gate_callee (f := 114) rfl ?_); refine goesL_ (some 9) rfl rfl Try.func114 (by kernel_rfl) rfl #[.int .i64 a0, .slice A1 l1.length c1] rfl (by (try simp only [List.map_toArray, List.map_cons, List.map_nil]); first | done | rfl | (simp only [List.length_drop, List.length_take]; rfl)) ?_; (with_reducible refine (spec_l05Walkers.calls k a0 _ _ l1 false _ ?side1 ?side2 A4.out).mono ?_); (case side1 => repeat (first | exact HR1.out | (with_reducible refine Kd.C_alloc ?_ _) | (with_reducible refine Kd.C_drewN ?_ _) | (with_reducible refine Kd.C_drew ?_))); (case side2 => exact HC1.out); rintro e w9 ⟨rfl, hb⟩; refine ⟨_, rfl, ?_⟩; have n0_ := Aside0.mk (below_step (by repeat (first | (with_reducible first | exact HB.out | apply below_alloc | apply pw_below_drewN | apply below_drew1) | exact HB.out)) hb); clear HB; have HB := n0_; clear n0_; (try clear hb); (try clear hb2); (try clear hk); (try clear hi)))
    go_ret
    exact ⟨by first | rfl | (simp [errW_none, errW_some] <;> rfl) | (simp [*, errW_none, errW_some] <;> rfl), by repeat (first | (with_reducible first | exact HB.out | apply below_alloc | apply pw_below_drewN | apply below_drew1) | exact HB.out)⟩
end Go.Proofs.Ytmheflciiodhdaa.P
-- Written by wip/tools/mkprint.py of this repo, over the kit's print, out of the translation; Lean checks it.
namespace Go.Proofs.Ytmheflciiodhdaa.P
open Go.RowKit Go.Proofs.YtmheflciiodhdaaW.PrintWords Go.Proofs.YtmheflciiodhdaaW.PrintLast Go.Proofs.YtmheflciiodhdaaW.PrintMore
attribute [local go_sem] max2_int min2_int max_two min_two max_three min_three max_four min_four   -- for this text's walks alone
set_option linter.unusedVariables false
set_option linter.unusedSimpArgs false
/-! ### spec_l05Ok: function 75 -/
def spec_l05Ok.l0 : Nat → List Int → Int → Option (Bool)
  | 0, _, _ => none
  | k + 1, x0, x3 => if x3 < (x0.length : Int) then (if 0 ≤ x3 then (if (rd x0 x3) > 7 then (some false) else (spec_l05Ok.l0 k x0 (wrap64 (x3 + 1)))) else (none)) else ((spec_l00In.f (x0.length : Int) 1 60).bind fun t189 => (some t189))
def spec_l05Ok.f (k : Nat) (l0 : List Int) : Option (Bool) := spec_l05Ok.l0 k l0 0
theorem spec_l05Ok.mono_l : ∀ k, (∀ y0 y1, LeO (spec_l05Ok.l0 k y0 y1) (spec_l05Ok.l0 (k + 1) y0 y1))
  | 0 => fun _ _ r h => by simp [spec_l05Ok.l0] at h
  | k + 1 => by
    have ih0 := spec_l05Ok.mono_l k
    · intro y0 y1
      unfold spec_l05Ok.l0
      repeat' first
      | (with_reducible exact ih0 _ _)
      | (with_reducible exact LeO.refl _)
      | (with_reducible exact LeO.none _)
      | (with_reducible refine LeO.ite ?_ ?_)
      | (with_reducible refine LeO.bind ?_ (fun _ => ?_))
      | exact ih0 _ _
      | exact LeO.none _
      | refine LeO.ite ?_ ?_
      | refine LeO.bind ?_ (fun _ => ?_)
theorem spec_l05Ok.mono : ∀ a0 k, LeO (spec_l05Ok.f k a0) (spec_l05Ok.f (k + 1) a0) := by
  intro a0 k
  have ih0 := spec_l05Ok.mono_l k
  unfold spec_l05Ok.f
  repeat' first
      | (with_reducible exact ih0 _ _)
      | (with_reducible exact LeO.refl _)
      | (with_reducible exact LeO.none _)
      | (with_reducible refine LeO.ite ?_ ?_)
      | (with_reducible refine LeO.bind ?_ (fun _ => ?_))
      | exact ih0 _ _
      | exact LeO.none _
      | refine LeO.ite ?_ ?_
      | refine LeO.bind ?_ (fun _ => ?_)
set_option maxHeartbeats 8000000 in
set_option maxRecDepth 100000 in
theorem spec_l05Ok.calls (k : Nat) (A0 : Option Addr) (c0 : Nat) (l0 : List Int) (r : Bool) (w : World) (hr0 : Kd.C (Kd.int .u8) w A0 l0.length l0) (hc0 : l0.length ≤ c0) (h : spec_l05Ok.f k l0 = some r) :
    Calls Try.prog 75 #[.slice A0 l0.length c0] w fun e w' => e = .returned (.bool r) ∧ Drawn0 w w' := by
  have HR0 := Aside0.mk hr0
  have HC0 := Aside0.mk hc0
  clear hr0 hc0
  have H : (spec_l05Ok.l0 k l0 0) = some r := h
  clear h
  have H' := Aside0.mk H
  clear H
  go_enter Try.func75, Try.ntmps75
  go_wp2
  go_loopg [3] k (fun kq v3 w' => ∃ (x3_1 : Int), v3 = .int .i64 x3_1 ∧ Aside0 (spec_l05Ok.l0 kq l0 x3_1 = some r) ∧ Aside0 (kq ≤ k) ∧ Drawn0 w w')
  case atStart => exact ⟨(0), (by first | rfl | (simp; done) | (simp [*]; done)), H', ⟨Nat.le_refl _⟩, by repeat (first | exact Drawn0.refl _ | apply Drawn0.step)⟩
  case round =>
    clear H'
    obtain ⟨x3_1, rfl, HA, HK1, ⟨m1, rfl⟩⟩ := hrel
    cases gk with
    | zero => exact absurd HA.out (by simp [spec_l05Ok.l0])
    | succ k1 =>
      have H := HA.out
      clear HA
      simp only [spec_l05Ok.l0] at H
      by_cases c2 : x3_1 < (l0.length : Int)
      · rw [if_pos c2] at H
        have c2b0 : decide (x3_1 < (l0.length : Int)) = true := decide_eq_true c2
        clear c2
        by_cases c3 : 0 ≤ x3_1
        · rw [if_pos c3] at H
          have c3b0 : decide (0 ≤ x3_1) = true := decide_eq_true c3
          clear c3
          by_cases c4 : (rd l0 x3_1) > 7
          · rw [if_pos c4] at H
            have c4b0 : decide (7 < (rd l0 x3_1)) = true := decide_eq_true c4
            clear c4
            obtain rfl := Option.some.inj H
            have p188 : 0 ≤ (x3_1 : Int) := of_decide_eq_true (by first | (with_reducible assumption) | assumption)
            have q188 : x3_1 < (l0.length : Int) := of_decide_eq_true (by first | (with_reducible assumption) | assumption)
            obtain ⟨ad188, e188, hx188_0⟩ := Kd.at_int HR0.out x3_1 p188 q188
            cases e188
            replace p188 := eq_true p188
            replace q188 := eq_true q188
            go_wp2
            go_ret
            exact ⟨by first | rfl | (simp; done) | (simp [*]; done), by repeat (first | exact Drawn0.refl _ | apply Drawn0.step)⟩
          · rw [if_neg c4] at H
            have c4b0 : decide (7 < (rd l0 x3_1)) = false := decide_eq_false c4
            clear c4
            have H' := Aside0.mk H
            clear H
            have p188 : 0 ≤ (x3_1 : Int) := of_decide_eq_true (by first | (with_reducible assumption) | assumption)
            have q188 : x3_1 < (l0.length : Int) := of_decide_eq_true (by first | (with_reducible assumption) | assumption)
            obtain ⟨ad188, e188, hx188_0⟩ := Kd.at_int HR0.out x3_1 p188 q188
            cases e188
            replace p188 := eq_true p188
            replace q188 := eq_true q188
            go_wp2
            go_roundg k1
            case measure => have := HK1.out; omega
            case rel => exact ⟨(wrap64 (x3_1 + 1)), (by first | rfl | (simp; done) | (simp [*]; done)), H', ⟨by have := HK1.out; omega⟩, by repeat (first | exact Drawn0.refl _ | apply Drawn0.step)⟩
        · rw [if_neg c3] at H
          exact absurd H (by simp)
      · rw [if_neg c2] at H
        have c2b0 : decide (x3_1 < (l0.length : Int)) = false := decide_eq_false c2
        clear c2
        replace H := Option.bind_eq_some_iff.mp H
        obtain ⟨t189, A50, H⟩ := H
        replace H : (some t189) = some r := H
        have A5 := Aside0.mk A50
        clear A50
        obtain rfl := Option.some.inj H
        go_wp2_with (first | ((with_reducible refine gate_callee (f := 102) rfl ?_); refine goesL_ (some 17) rfl rfl Try.func102 (by kernel_rfl) rfl #[.int .i64 (l0.length : Int), .int .i64 1, .int .i64 60] rfl (by (try simp only [List.map_toArray, List.map_cons, List.map_nil]); first | done | rfl | (simp only [List.length_drop, List.length_take]; rfl)) ?_; (with_reducible refine (spec_l00In.calls (l0.length : Int) 1 60 t189 _ A5.out).mono ?_); rintro e w' ⟨rfl, ⟨nd, rfl⟩⟩; refine ⟨_, rfl, ?_⟩))
        go_ret
        exact ⟨by first | rfl | (simp; done) | (simp [*]; done), by repeat (first | exact Drawn0.refl _ | apply Drawn0.step)⟩
end Go.Proofs.Ytmheflciiodhdaa.P
-- Written by wip/tools/mkprint.py of this repo, over the kit's print, out of the translation; Lean checks it.
namespace Go.Proofs.Ytmheflciiodhdaa.P
open Go.RowKit Go.Proofs.YtmheflciiodhdaaW.PrintWords Go.Proofs.YtmheflciiodhdaaW.PrintLast Go.Proofs.YtmheflciiodhdaaW.PrintMore
attribute [local go_sem] max2_int min2_int max_two min_two max_three min_three max_four min_four   -- for this text's walks alone
set_option linter.unusedVariables false
set_option linter.unusedSimpArgs false
/-! ### spec_l05Row: function 64 -/
def spec_l05Row.f (k : Nat) (l0 : List Int) (l1 : List (S38)) (a2 : Bool) : Option (Int) := (spec_l05Ok.f k l0).bind fun t201 => (if t201 = true then ((spec_l05Asked.f k (l0.length : Int) l1 a2).bind fun t202 => (some t202)) else (some 1))
theorem spec_l05Row.mono : ∀ a0 a1 a2 k, LeO (spec_l05Row.f k a0 a1 a2) (spec_l05Row.f (k + 1) a0 a1 a2) := by
  intro a0 a1 a2 k
  unfold spec_l05Row.f
  repeat' first
      | (with_reducible exact spec_l05Asked.mono _ _ _ _)
      | (with_reducible exact spec_l05Ok.mono _ _)
      | (with_reducible exact LeO.refl _)
      | (with_reducible exact LeO.none _)
      | (with_reducible refine LeO.ite ?_ ?_)
      | (with_reducible refine LeO.bind ?_ (fun _ => ?_))
      | exact spec_l05Asked.mono _ _ _ _
      | exact spec_l05Ok.mono _ _
      | exact LeO.none _
      | refine LeO.ite ?_ ?_
      | refine LeO.bind ?_ (fun _ => ?_)
set_option maxHeartbeats 8000000 in
set_option maxRecDepth 100000 in
theorem spec_l05Row.calls (k : Nat) (A0 : Option Addr) (c0 : Nat) (l0 : List Int) (A1 : Option Addr) (c1 : Nat) (l1 : List (S38)) (a2 : Bool) (r : Int) (w : World) (hr0 : Kd.C (Kd.int .u8) w A0 l0.length l0) (hc0 : l0.length ≤ c0) (hr1 : Kd.C k38 w A1 l1.length l1) (hc1 : l1.length ≤ c1) (h : spec_l05Row.f k l0 l1 a2 = some r) :
    Calls Try.prog 64 #[.slice A0 l0.length c0, .slice A1 l1.length c1, .bool a2] w fun e w' => e = .returned (.int .i64 r) ∧ Below w.heap.size w w' := by
  have HR0 := Aside0.mk hr0
  have HC0 := Aside0.mk hc0
  clear hr0 hc0
  have HR1 := Aside0.mk hr1
  have HC1 := Aside0.mk hc1
  clear hr1 hc1
  have HB := Aside0.mk (Below.refl w.heap.size w)
  have H : ((spec_l05Ok.f k l0).bind fun t201 => (if t201 = true then ((spec_l05Asked.f k (l0.length : Int) l1 a2).bind fun t202 => (some t202)) else (some 1))) = some r := h
  clear h
  replace H := Option.bind_eq_some_iff.mp H
  obtain ⟨t201, A40, H⟩ := H
  replace H : (if t201 = true then ((spec_l05Asked.f k (l0.length : Int) l1 a2).bind fun t202 => (some t202)) else (some 1)) = some r := H
  have A4 := Aside0.mk A40
  clear A40
  by_cases c5 : t201 = true
  · subst c5
    have H1 : ((spec_l05Asked.f k (l0.length : Int) l1 a2).bind fun t202 => (some t202)) = some r := by rw [if_pos rfl] at H; exact H
    clear H
    have H := H1
    clear H1
    replace H := Option.bind_eq_some_iff.mp H
    obtain ⟨t202, A60, H⟩ := H
    replace H : (some t202) = some r := H
    have A6 := Aside0.mk A60
    clear A60
    obtain rfl := Option.some.inj H
    go_enter Try.func64, Try.ntmps64
    go_wp2_with (first | ((with_reducible refine gate_callee (f := 75) rfl ?_); refine goesL_ (some 8) rfl rfl Try.func75 (by kernel_rfl) rfl #[.slice A0 l0.length c0] rfl (by (try simp only [List.map_toArray, List.map_cons, List.map_nil]); first | done | rfl | (simp only [List.length_drop, List.length_take]; rfl)) ?_; (with_reducible refine (spec_l05Ok.calls k _ _ l0 true _ ?side1 ?side2 A4.out).mono ?_); (case side1 => repeat (first | exact HR0.out | (with_reducible refine Kd.C_alloc ?_ _) | (with_reducible refine Kd.C_drewN ?_ _) | (with_reducible refine Kd.C_drew ?_))); (case side2 => exact HC0.out); rintro e w' ⟨rfl, ⟨nd, rfl⟩⟩; refine ⟨_, rfl, ?_⟩) | ((with_reducible refine gate_callee (f := 92) rfl ?_); refine goesL_ (some 14) rfl rfl Try.func92 (by kernel_rfl) rfl #[.int .i64 (l0.length : Int), .slice A1 l1.length c1, .bool a2] rfl (by (try simp only [List.map_toArray, List.map_cons, List.map_nil]); first | done | rfl | (simp only [List.length_drop, List.length_take]; rfl)) ?_; (with_reducible refine (spec_l05Asked.calls k (l0.length : Int) _ _ l1 a2 t202 _ ?side1 ?side2 A6.out).mono ?_); (case side1 => repeat (first | exact HR1.out | (with_reducible refine Kd.C_alloc ?_ _) | (with_reducible refine Kd.C_drewN ?_ _) | (with_reducible refine Kd.C_drew ?_))); (case side2 => exact HC1.out); rintro e w7 ⟨rfl, hb⟩; refine ⟨_, rfl, ?_⟩; have n0_ := Aside0.mk (below_step (by repeat (first | (with_reducible first | exact HB.out | apply below_alloc | apply pw_below_drewN | apply below_drew1) | exact HB.out)) hb); clear HB; have HB := n0_; clear n0_; (try clear hb); (try clear hb2); (try clear hk); (try clear hi)))
    go_ret
    exact ⟨by first | rfl | (simp [errW_none, errW_some] <;> rfl) | (simp [*, errW_none, errW_some] <;> rfl), by repeat (first | (with_reducible first | exact HB.out | apply below_alloc | apply pw_below_drewN | apply below_drew1) | exact HB.out)⟩
  · replace c5 := Bool.eq_false_iff.mpr c5
    subst c5
    have H1 : (some 1) = some r := by rw [if_neg (show ¬ (false = true) by decide)] at H; exact H
    clear H
    have H := H1
    clear H1
    obtain rfl := Option.some.inj H
    go_enter Try.func64, Try.ntmps64
    go_wp2_with (first | ((with_reducible refine gate_callee (f := 75) rfl ?_); refine goesL_ (some 8) rfl rfl Try.func75 (by kernel_rfl) rfl #[.slice A0 l0.length c0] rfl (by (try simp only [List.map_toArray, List.map_cons, List.map_nil]); first | done | rfl | (simp only [List.length_drop, List.length_take]; rfl)) ?_; (with_reducible refine (spec_l05Ok.calls k _ _ l0 false _ ?side1 ?side2 A4.out).mono ?_); (case side1 => repeat (first | exact HR0.out | (with_reducible refine Kd.C_alloc ?_ _) | (with_reducible refine Kd.C_drewN ?_ _) | (with_reducible refine Kd.C_drew ?_))); (case side2 => exact HC0.out); rintro e w' ⟨rfl, ⟨nd, rfl⟩⟩; refine ⟨_, rfl, ?_⟩))
    go_ret
    exact ⟨by first | rfl | (simp [errW_none, errW_some] <;> rfl) | (simp [*, errW_none, errW_some] <;> rfl), by repeat (first | (with_reducible first | exact HB.out | apply below_alloc | apply pw_below_drewN | apply below_drew1) | exact HB.out)⟩
end Go.Proofs.Ytmheflciiodhdaa.P
-- Written by wip/tools/mkprint.py of this repo, over the kit's print, out of the translation; Lean checks it.
namespace Go.Proofs.Ytmheflciiodhdaa.P
open Go.RowKit Go.Proofs.YtmheflciiodhdaaW.PrintWords Go.Proofs.YtmheflciiodhdaaW.PrintLast Go.Proofs.YtmheflciiodhdaaW.PrintMore
attribute [local go_sem] max2_int min2_int max_two min_two max_three min_three max_four min_four   -- for this text's walks alone
set_option linter.unusedVariables false
set_option linter.unusedSimpArgs false
/-! ### spec_l05Span: function 82 -/
def spec_l05Span.f (a0 : Int) (a1 : Int) (a2 : Int) : Option (Int) := if a0 = 0 then (if (wrap64 ((wrap64 (a2 - a1)) + 1)) > 400 then (some 3) else (some 0)) else (some a0)
set_option maxHeartbeats 8000000 in
set_option maxRecDepth 100000 in
theorem spec_l05Span.calls (a0 : Int) (a1 : Int) (a2 : Int) (r : Int) (w : World) (h : spec_l05Span.f a0 a1 a2 = some r) :
    Calls Try.prog 82 #[.int .i64 a0, .int .i64 a1, .int .i64 a2] w fun e w' => e = .returned (.int .i64 r) ∧ Drawn0 w w' := by
  have H : (if a0 = 0 then (if (wrap64 ((wrap64 (a2 - a1)) + 1)) > 400 then (some 3) else (some 0)) else (some a0)) = some r := h
  clear h
  by_cases c4 : a0 = 0
  · rw [if_pos c4] at H
    have c4b0 : (a0 == 0) = true := beq_iff_eq.mpr c4
    have c4b1 : (a0 != 0) = false := bne_eq_false_iff_eq.mpr c4
    clear c4
    by_cases c5 : (wrap64 ((wrap64 (a2 - a1)) + 1)) > 400
    · rw [if_pos c5] at H
      have c5b0 : decide (400 < (wrap64 ((wrap64 (a2 - a1)) + 1))) = true := decide_eq_true c5
      clear c5
      obtain rfl := Option.some.inj H
      go_enter Try.func82, Try.ntmps82
      go_wp2
      go_ret
      exact ⟨by first | rfl | (simp; done) | (simp [*]; done), by repeat (first | exact Drawn0.refl _ | apply Drawn0.step)⟩
    · rw [if_neg c5] at H
      have c5b0 : decide (400 < (wrap64 ((wrap64 (a2 - a1)) + 1))) = false := decide_eq_false c5
      clear c5
      obtain rfl := Option.some.inj H
      go_enter Try.func82, Try.ntmps82
      go_wp2
      go_ret
      exact ⟨by first | rfl | (simp; done) | (simp [*]; done), by repeat (first | exact Drawn0.refl _ | apply Drawn0.step)⟩
  · rw [if_neg c4] at H
    have c4b0 : (a0 == 0) = false := beq_eq_false_iff_ne.mpr c4
    have c4b1 : (a0 != 0) = true := bne_iff_ne.mpr c4
    obtain rfl := Option.some.inj H
    go_enter Try.func82, Try.ntmps82
    go_wp2
    go_ret
    exact ⟨by first | rfl | (simp; done) | (simp [*]; done), by repeat (first | exact Drawn0.refl _ | apply Drawn0.step)⟩
end Go.Proofs.Ytmheflciiodhdaa.P
-- Written by wip/tools/mkprint.py of this repo, over the kit's print, out of the translation; Lean checks it.
namespace Go.Proofs.Ytmheflciiodhdaa.P
open Go.RowKit Go.Proofs.YtmheflciiodhdaaW.PrintWords Go.Proofs.YtmheflciiodhdaaW.PrintLast Go.Proofs.YtmheflciiodhdaaW.PrintMore
attribute [local go_sem] max2_int min2_int max_two min_two max_three min_three max_four min_four   -- for this text's walks alone
set_option linter.unusedVariables false
set_option linter.unusedSimpArgs false
/-! ### spec_l05Day: function 65 -/
def spec_l05Day.f (a0 : Int) : Option (Bool) := (spec_l00In.f a0 0 10000).bind fun t203 => (some t203)
set_option maxHeartbeats 8000000 in
set_option maxRecDepth 100000 in
theorem spec_l05Day.calls (a0 : Int) (r : Bool) (w : World) (h : spec_l05Day.f a0 = some r) :
    Calls Try.prog 65 #[.int .i64 a0] w fun e w' => e = .returned (.bool r) ∧ Drawn0 w w' := by
  have H : ((spec_l00In.f a0 0 10000).bind fun t203 => (some t203)) = some r := h
  clear h
  replace H := Option.bind_eq_some_iff.mp H
  obtain ⟨t203, A20, H⟩ := H
  replace H : (some t203) = some r := H
  have A2 := Aside0.mk A20
  clear A20
  obtain rfl := Option.some.inj H
  go_enter Try.func65, Try.ntmps65
  go_wp2_with (first | ((with_reducible refine gate_callee (f := 102) rfl ?_); refine goesL_ (some 4) rfl rfl Try.func102 (by kernel_rfl) rfl #[.int .i64 a0, .int .i64 0, .int .i64 10000] rfl (by (try simp only [List.map_toArray, List.map_cons, List.map_nil]); first | done | rfl | (simp only [List.length_drop, List.length_take]; rfl)) ?_; (with_reducible refine (spec_l00In.calls a0 0 10000 t203 _ A2.out).mono ?_); rintro e w' ⟨rfl, ⟨nd, rfl⟩⟩; refine ⟨_, rfl, ?_⟩))
  go_ret
  exact ⟨by first | rfl | (simp; done) | (simp [*]; done), by repeat (first | exact Drawn0.refl _ | apply Drawn0.step)⟩
end Go.Proofs.Ytmheflciiodhdaa.P
-- Written by wip/tools/mkprint.py of this repo, over the kit's print, out of the translation; Lean checks it.
namespace Go.Proofs.Ytmheflciiodhdaa.P
open Go.RowKit Go.Proofs.YtmheflciiodhdaaW.PrintWords Go.Proofs.YtmheflciiodhdaaW.PrintLast Go.Proofs.YtmheflciiodhdaaW.PrintMore
attribute [local go_sem] max2_int min2_int max_two min_two max_three min_three max_four min_four   -- for this text's walks alone
set_option linter.unusedVariables false
set_option linter.unusedSimpArgs false
/-! ### spec_l05From: function 83 -/
def spec_l05From.f (a0 : Int) (a1 : Int) : Option (Bool) := (spec_l05Day.f a0).bind fun t354 => (if t354 = true then ((spec_l05Day.f a1).bind fun t355 => (if t355 = true then (some (decide (a0 ≤ a1))) else (some false))) else (some false))
set_option maxHeartbeats 8000000 in
set_option maxRecDepth 100000 in
theorem spec_l05From.calls (a0 : Int) (a1 : Int) (r : Bool) (w : World) (h : spec_l05From.f a0 a1 = some r) :
    Calls Try.prog 83 #[.int .i64 a0, .int .i64 a1] w fun e w' => e = .returned (.bool r) ∧ Drawn0 w w' := by
  have H : ((spec_l05Day.f a0).bind fun t354 => (if t354 = true then ((spec_l05Day.f a1).bind fun t355 => (if t355 = true then (some (decide (a0 ≤ a1))) else (some false))) else (some false))) = some r := h
  clear h
  replace H := Option.bind_eq_some_iff.mp H
  obtain ⟨t354, A30, H⟩ := H
  replace H : (if t354 = true then ((spec_l05Day.f a1).bind fun t355 => (if t355 = true then (some (decide (a0 ≤ a1))) else (some false))) else (some false)) = some r := H
  have A3 := Aside0.mk A30
  clear A30
  by_cases c4 : t354 = true
  · subst c4
    have H1 : ((spec_l05Day.f a1).bind fun t355 => (if t355 = true then (some (decide (a0 ≤ a1))) else (some false))) = some r := by rw [if_pos rfl] at H; exact H
    clear H
    have H := H1
    clear H1
    replace H := Option.bind_eq_some_iff.mp H
    obtain ⟨t355, A50, H⟩ := H
    replace H : (if t355 = true then (some (decide (a0 ≤ a1))) else (some false)) = some r := H
    have A5 := Aside0.mk A50
    clear A50
    by_cases c6 : t355 = true
    · subst c6
      have H1 : (some (decide (a0 ≤ a1))) = some r := by rw [if_pos rfl] at H; exact H
      clear H
      have H := H1
      clear H1
      obtain rfl := Option.some.inj H
      go_enter Try.func83, Try.ntmps83
      go_wp2_with (first | ((with_reducible refine gate_callee (f := 65) rfl ?_); refine goesL_ (some 6) rfl rfl Try.func65 (by kernel_rfl) rfl #[.int .i64 a0] rfl (by (try simp only [List.map_toArray, List.map_cons, List.map_nil]); first | done | rfl | (simp only [List.length_drop, List.length_take]; rfl)) ?_; (with_reducible refine (spec_l05Day.calls a0 true _ A3.out).mono ?_); rintro e w' ⟨rfl, ⟨nd, rfl⟩⟩; refine ⟨_, rfl, ?_⟩) | (go_at_call 65; (with_reducible refine (spec_l05Day.calls a1 true _ A5.out).mono ?_); rintro e w' ⟨rfl, ⟨nd, rfl⟩⟩))
      go_ret
      exact ⟨by first | rfl | (simp; done) | (simp [*]; done), by repeat (first | exact Drawn0.refl _ | apply Drawn0.step)⟩
    · replace c6 := Bool.eq_false_iff.mpr c6
      subst c6
      have H1 : (some false) = some r := by rw [if_neg (show ¬ (false = true) by decide)] at H; exact H
      clear H
      have H := H1
      clear H1
      obtain rfl := Option.some.inj H
      go_enter Try.func83, Try.ntmps83
      go_wp2_with (first | ((with_reducible refine gate_callee (f := 65) rfl ?_); refine goesL_ (some 6) rfl rfl Try.func65 (by kernel_rfl) rfl #[.int .i64 a0] rfl (by (try simp only [List.map_toArray, List.map_cons, List.map_nil]); first | done | rfl | (simp only [List.length_drop, List.length_take]; rfl)) ?_; (with_reducible refine (spec_l05Day.calls a0 true _ A3.out).mono ?_); rintro e w' ⟨rfl, ⟨nd, rfl⟩⟩; refine ⟨_, rfl, ?_⟩) | (go_at_call 65; (with_reducible refine (spec_l05Day.calls a1 false _ A5.out).mono ?_); rintro e w' ⟨rfl, ⟨nd, rfl⟩⟩))
      go_ret
      exact ⟨by first | rfl | (simp; done) | (simp [*]; done), by repeat (first | exact Drawn0.refl _ | apply Drawn0.step)⟩
  · replace c4 := Bool.eq_false_iff.mpr c4
    subst c4
    have H1 : (some false) = some r := by rw [if_neg (show ¬ (false = true) by decide)] at H; exact H
    clear H
    have H := H1
    clear H1
    obtain rfl := Option.some.inj H
    go_enter Try.func83, Try.ntmps83
    go_wp2_with (first | ((with_reducible refine gate_callee (f := 65) rfl ?_); refine goesL_ (some 6) rfl rfl Try.func65 (by kernel_rfl) rfl #[.int .i64 a0] rfl (by (try simp only [List.map_toArray, List.map_cons, List.map_nil]); first | done | rfl | (simp only [List.length_drop, List.length_take]; rfl)) ?_; (with_reducible refine (spec_l05Day.calls a0 false _ A3.out).mono ?_); rintro e w' ⟨rfl, ⟨nd, rfl⟩⟩; refine ⟨_, rfl, ?_⟩))
    go_ret
    exact ⟨by first | rfl | (simp; done) | (simp [*]; done), by repeat (first | exact Drawn0.refl _ | apply Drawn0.step)⟩
end Go.Proofs.Ytmheflciiodhdaa.P
-- Written by wip/tools/mkprint.py of this repo, over the kit's print, out of the translation; Lean checks it.
namespace Go.Proofs.Ytmheflciiodhdaa.P
open Go.RowKit Go.Proofs.YtmheflciiodhdaaW.PrintWords Go.Proofs.YtmheflciiodhdaaW.PrintLast Go.Proofs.YtmheflciiodhdaaW.PrintMore
attribute [local go_sem] max2_int min2_int max_two min_two max_three min_three max_four min_four   -- for this text's walks alone
set_option linter.unusedVariables false
set_option linter.unusedSimpArgs false
/-! ### spec_l05Until: function 110 -/
def spec_l05Until.f (a0_0 : Int) (a0_1 : Int) (a0_2 : Int) (a0_3 : Int) (a0_4 : Int) (a0_5 : Int) (a1 : Int) : Option (Int) := if (wrap64 (a1 - (wrap64 (a0_0)))) < 0 then (some 0) else (if (wrap64 (a0_1)) = 0 then (none) else (some (wrap64 ((wrap64 (Int.tdiv (wrap64 (a1 - (wrap64 (a0_0)))) (wrap64 (a0_1)))) + 1))))
set_option maxHeartbeats 8000000 in
set_option maxRecDepth 100000 in
theorem spec_l05Until.calls (a0_0 : Int) (a0_1 : Int) (a0_2 : Int) (a0_3 : Int) (a0_4 : Int) (a0_5 : Int) (a1 : Int) (r : Int) (w : World) (h : spec_l05Until.f a0_0 a0_1 a0_2 a0_3 a0_4 a0_5 a1 = some r) :
    Calls Try.prog 110 #[.agg #[.int .i16 a0_0, .int .i16 a0_1, .int .i16 a0_2, .int .i16 a0_3, .int .i16 a0_4, .int .i8 a0_5], .int .i64 a1] w fun e w' => e = .returned (.int .i64 r) ∧ Below w.heap.size w w' := by
  have hu38 := Try.underlying38
  have HB := Aside0.mk (Below.refl w.heap.size w)
  have H : (if (wrap64 (a1 - (wrap64 (a0_0)))) < 0 then (some 0) else (if (wrap64 (a0_1)) = 0 then (none) else (some (wrap64 ((wrap64 (Int.tdiv (wrap64 (a1 - (wrap64 (a0_0)))) (wrap64 (a0_1)))) + 1))))) = some r := h
  clear h
  by_cases c3 : (wrap64 (a1 - (wrap64 (a0_0)))) < 0
  · rw [if_pos c3] at H
    have c3b0 : decide ((wrap64 (a1 - (wrap64 (a0_0)))) < 0) = true := decide_eq_true c3
    clear c3
    obtain rfl := Option.some.inj H
    go_enter Try.func110, Try.ntmps110
    go_wp2_with (first | ((with_reducible refine gate_dst (N := 2) rfl ?_); refine box_event ?hg (N := 2) ?hd (cs := #[.int .i16 a0_0, .int .i16 a0_1, .int .i16 a0_2, .int .i16 a0_3, .int .i16 a0_4, .int .i8 a0_5]) (t := 38) ?hr ?_; (case hd => rfl); (case hg => rfl); (case hr => first | (go_simp; done) | (go_simp; rfl)); intro gb210 hg w4 hbox hb; have n0_ := Aside0.mk (below_step (by repeat (first | (with_reducible first | exact HB.out | apply below_alloc | apply pw_below_drewN | apply below_drew1) | exact HB.out)) hb); have n1_ := Aside0.mk (hbox); have n2_ := Aside0.mk ((by rw [hg]; exact (below_size (by repeat (first | (with_reducible first | exact HB.out | apply below_alloc | apply pw_below_drewN | apply below_drew1) | exact HB.out))) : w.heap.size ≤ gb210)); have n3_ := Aside0.mk ((by rw [hg]; exact (below_size (by repeat (first | (with_reducible first | exact HB.out | apply below_alloc | apply pw_below_drewN | apply below_drew1) | exact HB.out))) : w.heap.size ≤ gb210)); clear HB; have HB := n0_; have BK210 := n1_; have GW210 := n2_; have GE210 := n3_; clear n0_ n1_ n2_ n3_; clear hb hbox hg; have hcz5_0 : w4.cell? ⟨gb210, 0, none⟩ = some (.int .i16 a0_0) := (blk_cell BK210.out 0).trans rfl; have hcz5_1 : w4.cell? ⟨gb210, 1, none⟩ = some (.int .i16 a0_1) := (blk_cell BK210.out 1).trans rfl; have hcz5_2 : w4.cell? ⟨gb210, 2, none⟩ = some (.int .i16 a0_2) := (blk_cell BK210.out 2).trans rfl; have hcz5_3 : w4.cell? ⟨gb210, 3, none⟩ = some (.int .i16 a0_3) := (blk_cell BK210.out 3).trans rfl; have hcz5_4 : w4.cell? ⟨gb210, 4, none⟩ = some (.int .i16 a0_4) := (blk_cell BK210.out 4).trans rfl; have hcz5_5 : w4.cell? ⟨gb210, 5, none⟩ = some (.int .i8 a0_5) := (blk_cell BK210.out 5).trans rfl; have hfz5_0 := blk_frozen BK210.out 0; have hfz5_1 := blk_frozen BK210.out 1; have hfz5_2 := blk_frozen BK210.out 2; have hfz5_3 := blk_frozen BK210.out 3; have hfz5_4 := blk_frozen BK210.out 4; have hfz5_5 := blk_frozen BK210.out 5))
    go_ret
    exact ⟨by first | rfl | (simp [errW_none, errW_some] <;> rfl) | (simp [*, errW_none, errW_some] <;> rfl), by repeat (first | (with_reducible first | exact HB.out | apply below_alloc | apply pw_below_drewN | apply below_drew1 | refine below_set ?_ GE210.out) | exact HB.out)⟩
  · rw [if_neg c3] at H
    have c3b0 : decide ((wrap64 (a1 - (wrap64 (a0_0)))) < 0) = false := decide_eq_false c3
    clear c3
    by_cases c6 : (wrap64 (a0_1)) = 0
    · rw [if_pos c6] at H
      exact absurd H (by simp)
    · rw [if_neg c6] at H
      have c6b0 : ((wrap64 (a0_1)) == 0) = false := beq_eq_false_iff_ne.mpr c6
      have c6b1 : ((wrap64 (a0_1)) != 0) = true := bne_iff_ne.mpr c6
      obtain rfl := Option.some.inj H
      go_enter Try.func110, Try.ntmps110
      go_wp2_with (first | ((with_reducible refine gate_dst (N := 2) rfl ?_); refine box_event ?hg (N := 2) ?hd (cs := #[.int .i16 a0_0, .int .i16 a0_1, .int .i16 a0_2, .int .i16 a0_3, .int .i16 a0_4, .int .i8 a0_5]) (t := 38) ?hr ?_; (case hd => rfl); (case hg => rfl); (case hr => first | (go_simp; done) | (go_simp; rfl)); intro gb210 hg w7 hbox hb; have n0_ := Aside0.mk (below_step (by repeat (first | (with_reducible first | exact HB.out | apply below_alloc | apply pw_below_drewN | apply below_drew1) | exact HB.out)) hb); have n1_ := Aside0.mk (hbox); have n2_ := Aside0.mk ((by rw [hg]; exact (below_size (by repeat (first | (with_reducible first | exact HB.out | apply below_alloc | apply pw_below_drewN | apply below_drew1) | exact HB.out))) : w.heap.size ≤ gb210)); have n3_ := Aside0.mk ((by rw [hg]; exact (below_size (by repeat (first | (with_reducible first | exact HB.out | apply below_alloc | apply pw_below_drewN | apply below_drew1) | exact HB.out))) : w.heap.size ≤ gb210)); clear HB; have HB := n0_; have BK210 := n1_; have GW210 := n2_; have GE210 := n3_; clear n0_ n1_ n2_ n3_; clear hb hbox hg; have hcz8_0 : w7.cell? ⟨gb210, 0, none⟩ = some (.int .i16 a0_0) := (blk_cell BK210.out 0).trans rfl; have hcz8_1 : w7.cell? ⟨gb210, 1, none⟩ = some (.int .i16 a0_1) := (blk_cell BK210.out 1).trans rfl; have hcz8_2 : w7.cell? ⟨gb210, 2, none⟩ = some (.int .i16 a0_2) := (blk_cell BK210.out 2).trans rfl; have hcz8_3 : w7.cell? ⟨gb210, 3, none⟩ = some (.int .i16 a0_3) := (blk_cell BK210.out 3).trans rfl; have hcz8_4 : w7.cell? ⟨gb210, 4, none⟩ = some (.int .i16 a0_4) := (blk_cell BK210.out 4).trans rfl; have hcz8_5 : w7.cell? ⟨gb210, 5, none⟩ = some (.int .i8 a0_5) := (blk_cell BK210.out 5).trans rfl; have hfz8_0 := blk_frozen BK210.out 0; have hfz8_1 := blk_frozen BK210.out 1; have hfz8_2 := blk_frozen BK210.out 2; have hfz8_3 := blk_frozen BK210.out 3; have hfz8_4 := blk_frozen BK210.out 4; have hfz8_5 := blk_frozen BK210.out 5))
      go_ret
      exact ⟨by first | rfl | (simp [errW_none, errW_some] <;> rfl) | (simp [*, errW_none, errW_some] <;> rfl), by repeat (first | (with_reducible first | exact HB.out | apply below_alloc | apply pw_below_drewN | apply below_drew1 | refine below_set ?_ GE210.out) | exact HB.out)⟩
end Go.Proofs.Ytmheflciiodhdaa.P
-- Written by wip/tools/mkprint.py of this repo, over the kit's print, out of the translation; Lean checks it.
namespace Go.Proofs.Ytmheflciiodhdaa.P
open Go.RowKit Go.Proofs.YtmheflciiodhdaaW.PrintWords Go.Proofs.YtmheflciiodhdaaW.PrintLast Go.Proofs.YtmheflciiodhdaaW.PrintMore
attribute [local go_sem] max2_int min2_int max_two min_two max_three min_three max_four min_four   -- for this text's walks alone
set_option linter.unusedVariables false
set_option linter.unusedSimpArgs false
/-! ### spec_l05Whole: function 66 -/
def spec_l05Whole.l0 : Nat → List (S38) → Int → List Int → Int → Option (List Int)
  | 0, _, _, _, _ => none
  | k + 1, x1, x2, x7, x8 => if x8 < (x1.length : Int) then (if 0 ≤ x8 then ((spec_l05Until.f ((rd_T38 x1 x8).f0) ((rd_T38 x1 x8).f1) ((rd_T38 x1 x8).f2) ((rd_T38 x1 x8).f3) ((rd_T38 x1 x8).f4) ((rd_T38 x1 x8).f5) x2).bind fun t219 => ((spec_l05Turned.f k x7 ((rd_T38 x1 x8).f0) ((rd_T38 x1 x8).f1) ((rd_T38 x1 x8).f2) ((rd_T38 x1 x8).f3) ((rd_T38 x1 x8).f4) ((rd_T38 x1 x8).f5) t219).bind fun t220 => (spec_l05Whole.l0 k x1 x2 t220 (wrap64 (x8 + 1))))) else (none)) else (some x7)
def spec_l05Whole.f (k : Nat) (l0 : List Int) (l1 : List (S38)) (a2 : Int) : Option (List Int) := (some (([] : List Int) : List Int)).bind fun y211 => (if y211.length + l0.length < 140737488355328 then (spec_l05Whole.l0 k l1 a2 (y211 ++ l0) 0) else (none))
theorem spec_l05Whole.mono_l : ∀ k, (∀ y0 y1 y2 y3, LeO (spec_l05Whole.l0 k y0 y1 y2 y3) (spec_l05Whole.l0 (k + 1) y0 y1 y2 y3))
  | 0 => fun _ _ _ _ r h => by simp [spec_l05Whole.l0] at h
  | k + 1 => by
    have ih0 := spec_l05Whole.mono_l k
    · intro y0 y1 y2 y3
      unfold spec_l05Whole.l0
      repeat' first
      | (with_reducible exact ih0 _ _ _ _)
      | (with_reducible exact spec_l05Turned.mono _ _ _ _ _ _ _ _ _)
      | (with_reducible exact LeO.refl _)
      | (with_reducible exact LeO.none _)
      | (with_reducible refine LeO.ite ?_ ?_)
      | (with_reducible refine LeO.bind ?_ (fun _ => ?_))
      | exact ih0 _ _ _ _
      | exact spec_l05Turned.mono _ _ _ _ _ _ _ _ _
      | exact LeO.none _
      | refine LeO.ite ?_ ?_
      | refine LeO.bind ?_ (fun _ => ?_)
theorem spec_l05Whole.mono : ∀ a0 a1 a2 k, LeO (spec_l05Whole.f k a0 a1 a2) (spec_l05Whole.f (k + 1) a0 a1 a2) := by
  intro a0 a1 a2 k
  have ih0 := spec_l05Whole.mono_l k
  unfold spec_l05Whole.f
  repeat' first
      | (with_reducible exact ih0 _ _ _ _)
      | (with_reducible exact spec_l05Turned.mono _ _ _ _ _ _ _ _ _)
      | (with_reducible exact LeO.refl _)
      | (with_reducible exact LeO.none _)
      | (with_reducible refine LeO.ite ?_ ?_)
      | (with_reducible refine LeO.bind ?_ (fun _ => ?_))
      | exact ih0 _ _ _ _
      | exact spec_l05Turned.mono _ _ _ _ _ _ _ _ _
      | exact LeO.none _
      | refine LeO.ite ?_ ?_
      | refine LeO.bind ?_ (fun _ => ?_)
def spec_l05Whole.T5 : Bool × List (List Nat × List Nat) := (true, [([], []), ([], []), ([], []), ([1, 2], [1, 2]), ([3], [3]), ([], []), ([], []), ([5, 6], [5, 6]), ([7], [7]), ([], []), ([8, 9], [8, 9]), ([0, 4, 10, 10], [0, 4, 10]), ([11, 11, 0, 1, 2, 3, 4, 5, 6, 7, 8, 9, 10, 11], [0, 11])])
def spec_l05Whole.B5 : List Nat := [0, 0, 0, 6, 14, 0, 0, 96, 224, 0, 992, 2047, 4095]
theorem spec_l05Whole.tab5 : rtab .any (opsOf Try.f66 5) = spec_l05Whole.T5 := by kernel_rfl
theorem spec_l05Whole.bits5 : waitsOk spec_l05Whole.T5.2 spec_l05Whole.B5 = true := by kernel_rfl
set_option maxHeartbeats 8000000 in
set_option maxRecDepth 100000 in
theorem spec_l05Whole.calls (k : Nat) (A0 : Option Addr) (c0 : Nat) (l0 : List Int) (A1 : Option Addr) (c1 : Nat) (l1 : List (S38)) (a2 : Int) (r : List Int) (w : World) (hr0 : Kd.C (Kd.int .u8) w A0 l0.length l0) (hc0 : l0.length ≤ c0) (hr1 : Kd.C k38 w A1 l1.length l1) (hc1 : l1.length ≤ c1) (h : spec_l05Whole.f k l0 l1 a2 = some r) :
    Calls Try.prog 66 #[.slice A0 l0.length c0, .slice A1 l1.length c1, .int .i64 a2] w fun e w' => ∃ v0_ : Value, e = .returned (v0_) ∧ Kd.R (Kd.int .u8) 5 w' w.heap.size (fun _ => True) v0_ r ∧ Below w.heap.size w w' := by
  have hu38 := Try.underlying38
  have HR0 := Aside0.mk hr0
  have HC0 := Aside0.mk hc0
  clear hr0 hc0
  have HR1 := Aside0.mk hr1
  have HC1 := Aside0.mk hc1
  clear hr1 hc1
  have HB := Aside0.mk (Below.refl w.heap.size w)
  have H : ((some (([] : List Int) : List Int)).bind fun y211 => (if y211.length + l0.length < 140737488355328 then (spec_l05Whole.l0 k l1 a2 (y211 ++ l0) 0) else (none))) = some r := h
  clear h
  obtain ⟨y211, hy211⟩ : ∃ y_ : List Int, y_ = (([] : List Int)) := ⟨_, rfl⟩
  replace H : (if y211.length + l0.length < 140737488355328 then (spec_l05Whole.l0 k l1 a2 (y211 ++ l0) 0) else (none)) = some r := by first | (rw [hy211]; with_reducible exact H) | (have H2_ := (Option.bind_some _ _).symm.trans H; rw [hy211]; with_reducible exact H2_) | (have H2_ := (Option.bind_some _ _).symm.trans H; with_reducible exact H2_) | with_reducible exact H | (rw [hy211]; exact H) | exact H
  have Ny211 := Aside0.mk hy211
  clear hy211
  by_cases c4 : y211.length + l0.length < 140737488355328
  · rw [if_pos c4] at H
    have LMc4 := Aside0.mk c4
    clear c4
    obtain ⟨y214, hy214⟩ : ∃ y_ : List Int, y_ = (y211 ++ l0) := ⟨_, rfl⟩
    replace H : (spec_l05Whole.l0 k l1 a2 y214 0) = some r := by first | (rw [hy214]; with_reducible exact H) | (have H2_ := (Option.bind_some _ _).symm.trans H; rw [hy214]; with_reducible exact H2_) | (have H2_ := (Option.bind_some _ _).symm.trans H; with_reducible exact H2_) | with_reducible exact H | (rw [hy214]; exact H) | exact H
    have Ny214 := Aside0.mk hy214
    clear hy214
    have H' := Aside0.mk H
    clear H
    go_enter Try.func66, Try.ntmps66
    go_wp2_with (first | ((with_reducible refine gate_dst (N := 9) rfl ?_); refine Kd.R_lit (Kd.int .u8) _ 5 ?hg (N := 9) ?hd (xs := ([] : List Int)) (inner := []) (ok := fun _ => True) (okp := fun _ => True) ?hr ?hp (fun _ hk => hk) trivial (Below.refl _ _) (Nat.le_refl _) (by simp) ?_; (case hd => rfl); (case hg => rfl); (case hr => first | (go_simp; done) | (go_simp; rfl)); (case hp => exact (Reps.none _ _)); intro v212 w5 ho6 hb hg_ hnew_; clear hg_ hnew_; (first | rw [← Ny211.out] at ho6 | (simp only [Int.reduceToNat] at ho6; rw [← Ny211.out] at ho6)); have n0_ := Aside0.mk (Kd.R_lower ho6 (below_size (by repeat (first | (with_reducible first | exact HB.out | apply below_alloc | apply pw_below_drewN | apply below_drew1) | exact HB.out)))); have n1_ := Aside0.mk (below_step (by repeat (first | (with_reducible first | exact HB.out | apply below_alloc | apply pw_below_drewN | apply below_drew1) | exact HB.out)) hb); clear HB; have HO213 := n0_; have HB := n1_; clear n0_ n1_; clear hb ho6) | ((with_reducible refine gate_builtin (b := .append) (xs := #[.tmp 9, .tmp 10]) rfl ?_); at_builtin; refine Kd.R_append_rows (Kd.int .u8) (w0 := w) w.heap.size rfl (.tmp 9) (.tmp 10) 24 5 (.int .u8 0) 1 rfl Try.underlying24 info5 rfl (by decide) (by omega) v212 y211 l0 _ _ _ (fun _ => True) (fun _ => False) rfl rfl ?aO ?aR (fun _ _ h => h) (fun _ h => h.elim) ?aF ?aB ?aS ?aL ?_; (case aR => repeat (first | exact (Kd.C_below HR0.out HB.out) | (with_reducible refine Kd.C_alloc ?_ _) | (with_reducible refine Kd.C_drewN ?_ _) | (with_reducible refine Kd.C_drew ?_))); (case aB => exact (by repeat (first | (with_reducible first | exact HB.out | apply below_alloc | apply pw_below_drewN | apply below_drew1) | exact HB.out))); (case aF => exact (fun _ _ => trivial)); (case aO => exact (by (with_reducible repeat (first | apply Kd.R_alloc | apply Kd.R_drewN | apply Kd.R_drew)); exact HO213.out)); (case aS => exact (below_size (by repeat (first | (with_reducible first | exact HB.out | apply below_alloc | apply pw_below_drewN | apply below_drew1) | exact HB.out)))); (case aL => have := LMc4.out; omega); intro v215 w7 ho hb hg hat; rw [← Ny214.out] at ho; have n0_ := Aside0.mk (hb); have n1_ := Aside0.mk (ho); clear HB; clear HO213; have HB := n0_; have HO216 := n1_; clear n0_ n1_; clear ho hb hg hat))
    go_loopg [7, 8] k (fun kq v7 v8 w' => ∃ (x7_1 : List Int) (x8_1 : Int), v8 = .int .i64 x8_1 ∧ Aside0 (spec_l05Whole.l0 kq l1 a2 x7_1 x8_1 = some r) ∧ Aside0 (kq ≤ k) ∧ Aside0 (Kd.R (Kd.int .u8) 5 w' w.heap.size (fun _ => True) v7 x7_1) ∧ Aside0 (Below w.heap.size w w'))
    case atStart => exact ⟨(y214), (0), (by first | rfl | (simp; done) | (simp [*]; done)), H', ⟨Nat.le_refl _⟩, ⟨by (with_reducible repeat (first | apply Kd.R_alloc | apply Kd.R_drewN | apply Kd.R_drew)); exact HO216.out⟩, ⟨by repeat (first | (with_reducible first | exact HB.out | apply below_alloc | apply pw_below_drewN | apply below_drew1) | exact HB.out)⟩⟩
    case round =>
      clear H'
      try clear c1
      try clear p2
      try clear c4
      try clear c6
      obtain ⟨x7_1, x8_1, rfl, HA, HK1, HO_7, HB⟩ := hrel
      cases gk with
      | zero => exact absurd HA.out (by simp [spec_l05Whole.l0])
      | succ k1 =>
        have H := HA.out
        clear HA
        simp only [spec_l05Whole.l0] at H
        by_cases c8 : x8_1 < (l1.length : Int)
        · rw [if_pos c8] at H
          have c8b0 : decide (x8_1 < (l1.length : Int)) = true := decide_eq_true c8
          clear c8
          by_cases c9 : 0 ≤ x8_1
          · rw [if_pos c9] at H
            have c9b0 : decide (0 ≤ x8_1) = true := decide_eq_true c9
            clear c9
            replace H := Option.bind_eq_some_iff.mp H
            obtain ⟨t219, A100, H⟩ := H
            replace H : ((spec_l05Turned.f k1 x7_1 ((rd_T38 l1 x8_1).f0) ((rd_T38 l1 x8_1).f1) ((rd_T38 l1 x8_1).f2) ((rd_T38 l1 x8_1).f3) ((rd_T38 l1 x8_1).f4) ((rd_T38 l1 x8_1).f5) t219).bind fun t220 => (spec_l05Whole.l0 k1 l1 a2 t220 (wrap64 (x8_1 + 1)))) = some r := H
            have A10 := Aside0.mk A100
            clear A100
            replace H := Option.bind_eq_some_iff.mp H
            obtain ⟨t220, A110, H⟩ := H
            replace H : (spec_l05Whole.l0 k1 l1 a2 t220 (wrap64 (x8_1 + 1))) = some r := H
            have A11 := Aside0.mk A110
            clear A110
            have H' := Aside0.mk H
            clear H
            try go_wp2
            have n0_ := Aside0.mk (Kd.R_drew HO_7.out)
            have n1_ := Aside0.mk (below_drew1 HB.out)
            clear HO_7
            clear HB
            have HO_7 := n0_
            have HB := n1_
            clear n0_ n1_
            have p217 : 0 ≤ (x8_1 : Int) := of_decide_eq_true (by first | (with_reducible assumption) | assumption)
            have q217 : x8_1 < (l1.length : Int) := of_decide_eq_true (by first | (with_reducible assumption) | assumption)
            obtain ⟨ad217, e217, hx217_0, hx217_1, hx217_2, hx217_3, hx217_4, hx217_5⟩ := at_T38 HR1.out x8_1 p217 q217
            have hw217_5 := hx217_5
            have hw217_4 := hx217_4
            have hw217_3 := hx217_3
            have hw217_2 := hx217_2
            have hw217_1 := hx217_1
            have hw217_0 := hx217_0
            cases e217
            replace hx217_0 := (HB.out.cell (World.block_lt_of_cell? w _ hx217_0)).trans hx217_0
            replace hx217_1 := (HB.out.cell (World.block_lt_of_cell? w _ hx217_1)).trans hx217_1
            replace hx217_2 := (HB.out.cell (World.block_lt_of_cell? w _ hx217_2)).trans hx217_2
            replace hx217_3 := (HB.out.cell (World.block_lt_of_cell? w _ hx217_3)).trans hx217_3
            replace hx217_4 := (HB.out.cell (World.block_lt_of_cell? w _ hx217_4)).trans hx217_4
            replace hx217_5 := (HB.out.cell (World.block_lt_of_cell? w _ hx217_5)).trans hx217_5
            replace p217 := eq_true p217
            replace q217 := eq_true q217
            have p218 : 0 ≤ (x8_1 : Int) := of_decide_eq_true (by first | (with_reducible assumption) | assumption)
            have q218 : x8_1 < (l1.length : Int) := of_decide_eq_true (by first | (with_reducible assumption) | assumption)
            obtain ⟨ad218, e218, hx218_0, hx218_1, hx218_2, hx218_3, hx218_4, hx218_5⟩ := at_T38 HR1.out x8_1 p218 q218
            have hw218_5 := hx218_5
            have hw218_4 := hx218_4
            have hw218_3 := hx218_3
            have hw218_2 := hx218_2
            have hw218_1 := hx218_1
            have hw218_0 := hx218_0
            obtain rfl : ad217 = ad218 := (by injection e218)
            replace hx218_0 := (HB.out.cell (World.block_lt_of_cell? w _ hx218_0)).trans hx218_0
            replace hx218_1 := (HB.out.cell (World.block_lt_of_cell? w _ hx218_1)).trans hx218_1
            replace hx218_2 := (HB.out.cell (World.block_lt_of_cell? w _ hx218_2)).trans hx218_2
            replace hx218_3 := (HB.out.cell (World.block_lt_of_cell? w _ hx218_3)).trans hx218_3
            replace hx218_4 := (HB.out.cell (World.block_lt_of_cell? w _ hx218_4)).trans hx218_4
            replace hx218_5 := (HB.out.cell (World.block_lt_of_cell? w _ hx218_5)).trans hx218_5
            replace p218 := eq_true p218
            replace q218 := eq_true q218
            refine start_ (n := 13) (S := fun w' => w'.cell? (ad217.add ((x8_1).toNat * 6)) = some (.int .i16 ((rd_T38 l1 x8_1).f0)) ∧ w'.cell? ⟨(ad217.add ((x8_1).toNat * 6)).block, (ad217.add ((x8_1).toNat * 6)).off + 1, none⟩ = some (.int .i16 ((rd_T38 l1 x8_1).f1)) ∧ w'.cell? ⟨(ad217.add ((x8_1).toNat * 6)).block, (ad217.add ((x8_1).toNat * 6)).off + 2, none⟩ = some (.int .i16 ((rd_T38 l1 x8_1).f2)) ∧ w'.cell? ⟨(ad217.add ((x8_1).toNat * 6)).block, (ad217.add ((x8_1).toNat * 6)).off + 3, none⟩ = some (.int .i16 ((rd_T38 l1 x8_1).f3)) ∧ w'.cell? ⟨(ad217.add ((x8_1).toNat * 6)).block, (ad217.add ((x8_1).toNat * 6)).off + 4, none⟩ = some (.int .i16 ((rd_T38 l1 x8_1).f4)) ∧ w'.cell? ⟨(ad217.add ((x8_1).toNat * 6)).block, (ad217.add ((x8_1).toNat * 6)).off + 5, none⟩ = some (.int .i8 ((rd_T38 l1 x8_1).f5)) ∧ w'.cell? (ad217.add ((x8_1).toNat * 6)) = some (.int .i16 ((rd_T38 l1 x8_1).f0)) ∧ w'.cell? ⟨(ad217.add ((x8_1).toNat * 6)).block, (ad217.add ((x8_1).toNat * 6)).off + 1, none⟩ = some (.int .i16 ((rd_T38 l1 x8_1).f1)) ∧ w'.cell? ⟨(ad217.add ((x8_1).toNat * 6)).block, (ad217.add ((x8_1).toNat * 6)).off + 2, none⟩ = some (.int .i16 ((rd_T38 l1 x8_1).f2)) ∧ w'.cell? ⟨(ad217.add ((x8_1).toNat * 6)).block, (ad217.add ((x8_1).toNat * 6)).off + 3, none⟩ = some (.int .i16 ((rd_T38 l1 x8_1).f3)) ∧ w'.cell? ⟨(ad217.add ((x8_1).toNat * 6)).block, (ad217.add ((x8_1).toNat * 6)).off + 4, none⟩ = some (.int .i16 ((rd_T38 l1 x8_1).f4)) ∧ w'.cell? ⟨(ad217.add ((x8_1).toNat * 6)).block, (ad217.add ((x8_1).toNat * 6)).off + 5, none⟩ = some (.int .i8 ((rd_T38 l1 x8_1).f5))) (ds := []) #[false, false, false, false, false, false, false, false, false, false, false, false, false] (by kernel_rfl) rfl rfl ⟨((HB.out.cell (World.block_lt_of_cell? w _ hw217_0)).trans hw217_0), ((HB.out.cell (World.block_lt_of_cell? w _ hw217_1)).trans hw217_1), ((HB.out.cell (World.block_lt_of_cell? w _ hw217_2)).trans hw217_2), ((HB.out.cell (World.block_lt_of_cell? w _ hw217_3)).trans hw217_3), ((HB.out.cell (World.block_lt_of_cell? w _ hw217_4)).trans hw217_4), ((HB.out.cell (World.block_lt_of_cell? w _ hw217_5)).trans hw217_5), ((HB.out.cell (World.block_lt_of_cell? w _ hw218_0)).trans hw218_0), ((HB.out.cell (World.block_lt_of_cell? w _ hw218_1)).trans hw218_1), ((HB.out.cell (World.block_lt_of_cell? w _ hw218_2)).trans hw218_2), ((HB.out.cell (World.block_lt_of_cell? w _ hw218_3)).trans hw218_3), ((HB.out.cell (World.block_lt_of_cell? w _ hw218_4)).trans hw218_4), ((HB.out.cell (World.block_lt_of_cell? w _ hw218_5)).trans hw218_5)⟩ (fun hHeld => ?_); refine with_tabW spec_l05Whole.tab5 spec_l05Whole.bits5 (fun HT_ HW_ => ?_)
            generalize wr.drew = w12 at HO_7 HB hx217_0 hx217_1 hx217_2 hx217_3 hx217_4 hx217_5 hx218_0 hx218_1 hx218_2 hx218_3 hx218_4 hx218_5 hHeld ⊢
            refine pure_ (i := 0) (N := some 18) (v := ?_) (a' := ?_) #[true, false, false, false, false, false, false, false, false, false, false, false, false] rfl rfl (any_of HT_.out (by kernel_rfl)) (fun _ _ _ h => h) (Or.inl ⟨by rfl, ?_⟩) ?_ ?_
            rotate_left
            · intro w'
              go_simp
              with_reducible rfl
            rotate_left
            · simp only [Act.put, List.setIfInBounds_toArray, List.set_cons_zero, List.set_cons_succ, i64_w, i32_w]
              rfl
            refine pure_ (i := 1) (N := some 19) (v := ?_) (a' := ?_) #[true, true, false, false, false, false, false, false, false, false, false, false, false] rfl rfl (any_of HT_.out (by kernel_rfl)) (fun _ _ _ h => h) (Or.inl ⟨by rfl, ?_⟩) ?_ ?_
            rotate_left
            · intro w'
              go_simp
              with_reducible rfl
            rotate_left
            · simp only [Act.put, List.setIfInBounds_toArray, List.set_cons_zero, List.set_cons_succ, i64_w, i32_w]
              rfl
            refine pure_ (i := 2) (N := some 20) (v := ?_) (a' := ?_) #[true, true, true, false, false, false, false, false, false, false, false, false, false] rfl rfl (any_of HT_.out (by kernel_rfl)) (fun _ _ _ h => h) (Or.inl ⟨by rfl, ?_⟩) ?_ ?_
            rotate_left
            · intro w'
              go_simp
              with_reducible rfl
            rotate_left
            · simp only [Act.put, List.setIfInBounds_toArray, List.set_cons_zero, List.set_cons_succ, i64_w, i32_w]
              rfl
            refine pure_ (i := 3) (N := some 21) (v := ?_) (a' := ?_) #[true, true, true, true, false, false, false, false, false, false, false, false, false] rfl rfl (any_of HT_.out (by kernel_rfl)) (fun _ _ _ h => h) (Or.inl ⟨by rfl, ?_⟩) ?_ ?_
            rotate_left
            · intro w'
              go_simp
              with_reducible rfl
            rotate_left
            · simp only [Act.put, List.setIfInBounds_toArray, List.set_cons_zero, List.set_cons_succ, i64_w, i32_w]
              rfl
            refine pure_ (i := 5) (N := some 23) (v := ?_) (a' := ?_) #[true, true, true, true, false, true, false, false, false, false, false, false, false] rfl rfl (any_of HT_.out (by kernel_rfl)) (fun _ _ _ h => h) (Or.inl ⟨by rfl, ?_⟩) ?_ ?_
            rotate_left
            · intro w'
              go_simp
              with_reducible rfl
            rotate_left
            · simp only [Act.put, List.setIfInBounds_toArray, List.set_cons_zero, List.set_cons_succ, i64_w, i32_w]
              rfl
            refine pure_ (i := 6) (N := some 24) (v := ?_) (a' := ?_) #[true, true, true, true, false, true, true, false, false, false, false, false, false] rfl rfl (any_of HT_.out (by kernel_rfl)) (fun _ _ _ h => h) (Or.inl ⟨by rfl, ?_⟩) ?_ ?_
            rotate_left
            · intro w'
              go_simp
              with_reducible rfl
            rotate_left
            · simp only [Act.put, List.setIfInBounds_toArray, List.set_cons_zero, List.set_cons_succ, i64_w, i32_w]
              rfl
            refine pure_ (i := 7) (N := some 25) (v := ?_) (a' := ?_) #[true, true, true, true, false, true, true, true, false, false, false, false, false] rfl rfl (any_of HT_.out (by kernel_rfl)) (fun _ _ _ h => h) (Or.inl ⟨by rfl, ?_⟩) ?_ ?_
            rotate_left
            · intro w'
              go_simp
              with_reducible rfl
            rotate_left
            · simp only [Act.put, List.setIfInBounds_toArray, List.set_cons_zero, List.set_cons_succ, i64_w, i32_w]
              rfl
            refine pure_ (i := 9) (N := some 27) (v := ?_) (a' := ?_) #[true, true, true, true, false, true, true, true, false, true, false, false, false] rfl rfl (any_of HT_.out (by kernel_rfl)) (fun _ _ _ h => h) (Or.inl ⟨by rfl, ?_⟩) ?_ ?_
            rotate_left
            · intro w'
              go_simp
              with_reducible rfl
            rotate_left
            · simp only [Act.put, List.setIfInBounds_toArray, List.set_cons_zero, List.set_cons_succ, i64_w, i32_w]
              rfl
            refine take_ (i := 4) (N := some 22) (v := ?_) (a' := ?_) #[true, true, true, true, true, true, true, true, false, true, false, false, false] rfl rfl (take_ofW HT_.out HW_.out (by kernel_rfl)) (fun _ _ _ h => h) (Or.inl ⟨by rfl, ?_⟩) hHeld ?_ ?_
            rotate_left
            · rintro w' ⟨s0, s1, s2, s3, s4, s5, s6, s7, s8, s9, s10, s11⟩
              go_simp
              with_reducible rfl
            rotate_left
            · simp only [Act.put, List.setIfInBounds_toArray, List.set_cons_zero, List.set_cons_succ, i64_w, i32_w]
              rfl
            refine take_ (i := 8) (N := some 26) (v := ?_) (a' := ?_) #[true, true, true, true, true, true, true, true, true, true, false, false, false] rfl rfl (take_ofW HT_.out HW_.out (by kernel_rfl)) (fun _ _ _ h => h) (Or.inl ⟨by rfl, ?_⟩) hHeld ?_ ?_
            rotate_left
            · rintro w' ⟨s0, s1, s2, s3, s4, s5, s6, s7, s8, s9, s10, s11⟩
              go_simp
              with_reducible rfl
            rotate_left
            · simp only [Act.put, List.setIfInBounds_toArray, List.set_cons_zero, List.set_cons_succ, i64_w, i32_w]
              rfl
            refine one_ (i := 10) (N := some 28) #[true, true, true, true, true, true, true, true, true, true, true, false, false] rfl rfl (one_of HT_.out (by kernel_rfl)) (by decide) (fun K hK => ?_)
            refine goes_ Try.func110 (by kernel_rfl) rfl #[.agg #[.int .i16 ((rd_T38 l1 x8_1).f0), .int .i16 ((rd_T38 l1 x8_1).f1), .int .i16 ((rd_T38 l1 x8_1).f2), .int .i16 ((rd_T38 l1 x8_1).f3), .int .i16 ((rd_T38 l1 x8_1).f4), .int .i8 ((rd_T38 l1 x8_1).f5)], .int .i64 a2] (by rfl) rfl rfl (by (try simp only [List.map_toArray, List.map_cons, List.map_nil]); first | done | rfl | (simp only [List.length_drop, List.length_take]; rfl)) ?_
            with_reducible refine (spec_l05Until.calls ((rd_T38 l1 x8_1).f0) ((rd_T38 l1 x8_1).f1) ((rd_T38 l1 x8_1).f2) ((rd_T38 l1 x8_1).f3) ((rd_T38 l1 x8_1).f4) ((rd_T38 l1 x8_1).f5) a2 t219 _ A10.out).mono ?_
            rintro e w13 ⟨rfl, hb⟩
            refine ⟨_, rfl, ?_⟩
            have n0_ := Aside0.mk (Kd.R_below (by (with_reducible repeat (first | apply Kd.R_alloc | apply Kd.R_drewN | apply Kd.R_drew)); exact HO_7.out) hb)
            have n1_ := Aside0.mk (below_step (by repeat (first | (with_reducible first | exact HB.out | apply below_alloc | apply pw_below_drewN | apply below_drew1) | exact HB.out)) hb)
            clear HO_7
            clear HB
            have HO_7 := n0_
            have HB := n1_
            clear n0_ n1_
            (try clear hb)
            (try clear hb2)
            (try clear hk)
            (try clear hi)
            obtain ⟨Ao14, co14, eo14⟩ := Kd.R_slice HO_7.out
            (first | subst eo14 | (injection eo14 with f1_ f2_ f3_; have f4_ := f1_.symm; have f5_ := f3_.symm; clear f1_ f2_ f3_; subst f4_; subst f5_))
            refine hK.out _ _ ⟨((HB.out.cell (World.block_lt_of_cell? w _ hw217_0)).trans hw217_0), ((HB.out.cell (World.block_lt_of_cell? w _ hw217_1)).trans hw217_1), ((HB.out.cell (World.block_lt_of_cell? w _ hw217_2)).trans hw217_2), ((HB.out.cell (World.block_lt_of_cell? w _ hw217_3)).trans hw217_3), ((HB.out.cell (World.block_lt_of_cell? w _ hw217_4)).trans hw217_4), ((HB.out.cell (World.block_lt_of_cell? w _ hw217_5)).trans hw217_5), ((HB.out.cell (World.block_lt_of_cell? w _ hw218_0)).trans hw218_0), ((HB.out.cell (World.block_lt_of_cell? w _ hw218_1)).trans hw218_1), ((HB.out.cell (World.block_lt_of_cell? w _ hw218_2)).trans hw218_2), ((HB.out.cell (World.block_lt_of_cell? w _ hw218_3)).trans hw218_3), ((HB.out.cell (World.block_lt_of_cell? w _ hw218_4)).trans hw218_4), ((HB.out.cell (World.block_lt_of_cell? w _ hw218_5)).trans hw218_5)⟩ (fun hHeld => ?_)
            clear hK K
            refine norm_ (a' := ?_) ?_ ?_
            rotate_left
            · show Act.put _ (some 28) _ = _
              simp only [Act.put, List.setIfInBounds_toArray, List.set_cons_zero, List.set_cons_succ, i64_w, i32_w]
              rfl
            refine one_ (i := 11) (N := some 29) #[true, true, true, true, true, true, true, true, true, true, true, true, false] rfl rfl (one_of HT_.out (by kernel_rfl)) (by decide) (fun K hK => ?_)
            refine goes_ Try.func76 (by kernel_rfl) rfl #[.slice Ao14 x7_1.length co14, .agg #[.int .i16 ((rd_T38 l1 x8_1).f0), .int .i16 ((rd_T38 l1 x8_1).f1), .int .i16 ((rd_T38 l1 x8_1).f2), .int .i16 ((rd_T38 l1 x8_1).f3), .int .i16 ((rd_T38 l1 x8_1).f4), .int .i8 ((rd_T38 l1 x8_1).f5)], .int .i64 t219] (by rfl) rfl rfl (by (try simp only [List.map_toArray, List.map_cons, List.map_nil]); first | done | rfl | (simp only [List.length_drop, List.length_take]; rfl)) ?_
            with_reducible refine (spec_l05Turned.calls k1 _ _ x7_1 ((rd_T38 l1 x8_1).f0) ((rd_T38 l1 x8_1).f1) ((rd_T38 l1 x8_1).f2) ((rd_T38 l1 x8_1).f3) ((rd_T38 l1 x8_1).f4) ((rd_T38 l1 x8_1).f5) t219 t220 _ ?side1 ?side2 A11.out).mono ?_
            (case side1 => repeat (first | exact (Kd.R_reads' HO_7.out).2.2 | (with_reducible refine Kd.C_alloc ?_ _) | (with_reducible refine Kd.C_drewN ?_ _) | (with_reducible refine Kd.C_drew ?_)))
            (case side2 => exact (Kd.R_reads' HO_7.out).2.1)
            rintro e w15 ⟨v221, rfl, ho0, hb⟩
            refine ⟨_, rfl, ?_⟩
            have n0_ := Aside0.mk (Kd.R_elder' (by (with_reducible repeat (first | apply Kd.R_alloc | apply Kd.R_drewN | apply Kd.R_drew)); exact HO_7.out) (Kd.R_base ho0) hb)
            have n1_ := Aside0.mk (Kd.R_lower (Kd.R_new' ho0 (Kd.R_lt (by (with_reducible repeat (first | apply Kd.R_alloc | apply Kd.R_drewN | apply Kd.R_drew)); exact HO_7.out))) (below_size (by repeat (first | (with_reducible first | exact HB.out | apply below_alloc | apply pw_below_drewN | apply below_drew1) | exact HB.out))))
            have n2_ := Aside0.mk (below_step (by repeat (first | (with_reducible first | exact HB.out | apply below_alloc | apply pw_below_drewN | apply below_drew1) | exact HB.out)) hb)
            clear HO_7
            clear HB
            have HO_7 := n0_
            have HO222 := n1_
            have HB := n2_
            clear n0_ n1_ n2_
            (try clear hb)
            (try clear hb2)
            (try clear hk)
            (try clear hi)
            (try clear ho0)
            refine hK.out _ _ ⟨((HB.out.cell (World.block_lt_of_cell? w _ hw217_0)).trans hw217_0), ((HB.out.cell (World.block_lt_of_cell? w _ hw217_1)).trans hw217_1), ((HB.out.cell (World.block_lt_of_cell? w _ hw217_2)).trans hw217_2), ((HB.out.cell (World.block_lt_of_cell? w _ hw217_3)).trans hw217_3), ((HB.out.cell (World.block_lt_of_cell? w _ hw217_4)).trans hw217_4), ((HB.out.cell (World.block_lt_of_cell? w _ hw217_5)).trans hw217_5), ((HB.out.cell (World.block_lt_of_cell? w _ hw218_0)).trans hw218_0), ((HB.out.cell (World.block_lt_of_cell? w _ hw218_1)).trans hw218_1), ((HB.out.cell (World.block_lt_of_cell? w _ hw218_2)).trans hw218_2), ((HB.out.cell (World.block_lt_of_cell? w _ hw218_3)).trans hw218_3), ((HB.out.cell (World.block_lt_of_cell? w _ hw218_4)).trans hw218_4), ((HB.out.cell (World.block_lt_of_cell? w _ hw218_5)).trans hw218_5)⟩ (fun hHeld => ?_)
            clear hK K
            refine norm_ (a' := ?_) ?_ ?_
            rotate_left
            · show Act.put _ (some 29) _ = _
              simp only [Act.put, List.setIfInBounds_toArray, List.set_cons_zero, List.set_cons_succ, i64_w, i32_w]
              rfl
            refine pure_ (i := 12) (N := some 7) (v := ?_) (a' := ?_) #[true, true, true, true, true, true, true, true, true, true, true, true, true] rfl rfl (any_of HT_.out (by kernel_rfl)) (fun _ _ _ h => h) (Or.inl ⟨by rfl, ?_⟩) ?_ ?_
            rotate_left
            · intro w'
              go_simp
              with_reducible rfl
            rotate_left
            · simp only [Act.put, List.setIfInBounds_toArray, List.set_cons_zero, List.set_cons_succ, i64_w, i32_w]
              rfl
            refine done_ (done_of HT_.out (by kernel_rfl)) ?_
            try go_wp2
            go_roundg k1
            case measure => have := HK1.out; omega
            case rel => exact ⟨(t220), (wrap64 (x8_1 + 1)), (by first | rfl | (simp; done) | (simp [*]; done)), H', ⟨by have := HK1.out; omega⟩, ⟨by (with_reducible repeat (first | apply Kd.R_alloc | apply Kd.R_drewN | apply Kd.R_drew)); exact Kd.R_mono HO222.out (fun _ hk => trivial)⟩, ⟨by repeat (first | (with_reducible first | exact HB.out | apply below_alloc | apply pw_below_drewN | apply below_drew1) | exact HB.out)⟩⟩
          · rw [if_neg c9] at H
            exact absurd H (by simp)
        · rw [if_neg c8] at H
          have c8b0 : decide (x8_1 < (l1.length : Int)) = false := decide_eq_false c8
          clear c8
          obtain rfl := Option.some.inj H
          go_wp2
          go_ret
          exact ⟨_, by first | rfl | (simp [errW_none, errW_some] <;> rfl) | (simp [*, errW_none, errW_some] <;> rfl), by (with_reducible repeat (first | apply Kd.R_alloc | apply Kd.R_drewN | apply Kd.R_drew)); exact HO_7.out, by repeat (first | (with_reducible first | exact HB.out | apply below_alloc | apply pw_below_drewN | apply below_drew1) | exact HB.out)⟩
  · rw [if_neg c4] at H
    exact absurd H (by simp)
end Go.Proofs.Ytmheflciiodhdaa.P
-- Written by wip/tools/mkprint.py of this repo, over the kit's print, out of the translation; Lean checks it.
namespace Go.Proofs.Ytmheflciiodhdaa.P
open Go.RowKit Go.Proofs.YtmheflciiodhdaaW.PrintWords Go.Proofs.YtmheflciiodhdaaW.PrintLast Go.Proofs.YtmheflciiodhdaaW.PrintMore
attribute [local go_sem] max2_int min2_int max_two min_two max_three min_three max_four min_four   -- for this text's walks alone
set_option linter.unusedVariables false
set_option linter.unusedSimpArgs false
/-! ### spec_l05On: function 77 -/
def spec_l05On.f (a0_0 : Int) (a0_1 : Int) (a0_2 : Int) (a0_3 : Int) (a0_4 : Int) (a0_5 : Int) (a1 : Int) : Option (Bool) := if (wrap64 (a1 - (wrap64 (a0_0)))) ≥ 0 then (if (wrap64 (a0_1)) = 0 then (none) else (some ((Int.tmod (wrap64 (a1 - (wrap64 (a0_0)))) (wrap64 (a0_1))) == 0))) else (some false)
set_option maxHeartbeats 8000000 in
set_option maxRecDepth 100000 in
theorem spec_l05On.calls (a0_0 : Int) (a0_1 : Int) (a0_2 : Int) (a0_3 : Int) (a0_4 : Int) (a0_5 : Int) (a1 : Int) (r : Bool) (w : World) (h : spec_l05On.f a0_0 a0_1 a0_2 a0_3 a0_4 a0_5 a1 = some r) :
    Calls Try.prog 77 #[.agg #[.int .i16 a0_0, .int .i16 a0_1, .int .i16 a0_2, .int .i16 a0_3, .int .i16 a0_4, .int .i8 a0_5], .int .i64 a1] w fun e w' => e = .returned (.bool r) ∧ Below w.heap.size w w' := by
  have hu38 := Try.underlying38
  have HB := Aside0.mk (Below.refl w.heap.size w)
  have H : (if (wrap64 (a1 - (wrap64 (a0_0)))) ≥ 0 then (if (wrap64 (a0_1)) = 0 then (none) else (some ((Int.tmod (wrap64 (a1 - (wrap64 (a0_0)))) (wrap64 (a0_1))) == 0))) else (some false)) = some r := h
  clear h
  by_cases c3 : (wrap64 (a1 - (wrap64 (a0_0)))) ≥ 0
  · rw [if_pos c3] at H
    have c3b0 : decide (0 ≤ (wrap64 (a1 - (wrap64 (a0_0))))) = true := decide_eq_true c3
    clear c3
    by_cases c4 : (wrap64 (a0_1)) = 0
    · rw [if_pos c4] at H
      exact absurd H (by simp)
    · rw [if_neg c4] at H
      have c4b0 : ((wrap64 (a0_1)) == 0) = false := beq_eq_false_iff_ne.mpr c4
      have c4b1 : ((wrap64 (a0_1)) != 0) = true := bne_iff_ne.mpr c4
      obtain rfl := Option.some.inj H
      go_enter Try.func77, Try.ntmps77
      go_wp2_with (first | ((with_reducible refine gate_dst (N := 2) rfl ?_); refine box_event ?hg (N := 2) ?hd (cs := #[.int .i16 a0_0, .int .i16 a0_1, .int .i16 a0_2, .int .i16 a0_3, .int .i16 a0_4, .int .i8 a0_5]) (t := 38) ?hr ?_; (case hd => rfl); (case hg => rfl); (case hr => first | (go_simp; done) | (go_simp; rfl)); intro gb255 hg w5 hbox hb; have n0_ := Aside0.mk (below_step (by repeat (first | (with_reducible first | exact HB.out | apply below_alloc | apply pw_below_drewN | apply below_drew1) | exact HB.out)) hb); have n1_ := Aside0.mk (hbox); have n2_ := Aside0.mk ((by rw [hg]; exact (below_size (by repeat (first | (with_reducible first | exact HB.out | apply below_alloc | apply pw_below_drewN | apply below_drew1) | exact HB.out))) : w.heap.size ≤ gb255)); have n3_ := Aside0.mk ((by rw [hg]; exact (below_size (by repeat (first | (with_reducible first | exact HB.out | apply below_alloc | apply pw_below_drewN | apply below_drew1) | exact HB.out))) : w.heap.size ≤ gb255)); clear HB; have HB := n0_; have BK255 := n1_; have GW255 := n2_; have GE255 := n3_; clear n0_ n1_ n2_ n3_; clear hb hbox hg; have hcz6_0 : w5.cell? ⟨gb255, 0, none⟩ = some (.int .i16 a0_0) := (blk_cell BK255.out 0).trans rfl; have hcz6_1 : w5.cell? ⟨gb255, 1, none⟩ = some (.int .i16 a0_1) := (blk_cell BK255.out 1).trans rfl; have hcz6_2 : w5.cell? ⟨gb255, 2, none⟩ = some (.int .i16 a0_2) := (blk_cell BK255.out 2).trans rfl; have hcz6_3 : w5.cell? ⟨gb255, 3, none⟩ = some (.int .i16 a0_3) := (blk_cell BK255.out 3).trans rfl; have hcz6_4 : w5.cell? ⟨gb255, 4, none⟩ = some (.int .i16 a0_4) := (blk_cell BK255.out 4).trans rfl; have hcz6_5 : w5.cell? ⟨gb255, 5, none⟩ = some (.int .i8 a0_5) := (blk_cell BK255.out 5).trans rfl; have hfz6_0 := blk_frozen BK255.out 0; have hfz6_1 := blk_frozen BK255.out 1; have hfz6_2 := blk_frozen BK255.out 2; have hfz6_3 := blk_frozen BK255.out 3; have hfz6_4 := blk_frozen BK255.out 4; have hfz6_5 := blk_frozen BK255.out 5))
      go_ret
      exact ⟨by first | rfl | (simp [errW_none, errW_some] <;> rfl) | (simp [*, errW_none, errW_some] <;> rfl), by repeat (first | (with_reducible first | exact HB.out | apply below_alloc | apply pw_below_drewN | apply below_drew1 | refine below_set ?_ GE255.out) | exact HB.out)⟩
  · rw [if_neg c3] at H
    have c3b0 : decide (0 ≤ (wrap64 (a1 - (wrap64 (a0_0))))) = false := decide_eq_false c3
    clear c3
    obtain rfl := Option.some.inj H
    go_enter Try.func77, Try.ntmps77
    go_wp2_with (first | ((with_reducible refine gate_dst (N := 2) rfl ?_); refine box_event ?hg (N := 2) ?hd (cs := #[.int .i16 a0_0, .int .i16 a0_1, .int .i16 a0_2, .int .i16 a0_3, .int .i16 a0_4, .int .i8 a0_5]) (t := 38) ?hr ?_; (case hd => rfl); (case hg => rfl); (case hr => first | (go_simp; done) | (go_simp; rfl)); intro gb255 hg w7 hbox hb; have n0_ := Aside0.mk (below_step (by repeat (first | (with_reducible first | exact HB.out | apply below_alloc | apply pw_below_drewN | apply below_drew1) | exact HB.out)) hb); have n1_ := Aside0.mk (hbox); have n2_ := Aside0.mk ((by rw [hg]; exact (below_size (by repeat (first | (with_reducible first | exact HB.out | apply below_alloc | apply pw_below_drewN | apply below_drew1) | exact HB.out))) : w.heap.size ≤ gb255)); have n3_ := Aside0.mk ((by rw [hg]; exact (below_size (by repeat (first | (with_reducible first | exact HB.out | apply below_alloc | apply pw_below_drewN | apply below_drew1) | exact HB.out))) : w.heap.size ≤ gb255)); clear HB; have HB := n0_; have BK255 := n1_; have GW255 := n2_; have GE255 := n3_; clear n0_ n1_ n2_ n3_; clear hb hbox hg; have hcz8_0 : w7.cell? ⟨gb255, 0, none⟩ = some (.int .i16 a0_0) := (blk_cell BK255.out 0).trans rfl; have hcz8_1 : w7.cell? ⟨gb255, 1, none⟩ = some (.int .i16 a0_1) := (blk_cell BK255.out 1).trans rfl; have hcz8_2 : w7.cell? ⟨gb255, 2, none⟩ = some (.int .i16 a0_2) := (blk_cell BK255.out 2).trans rfl; have hcz8_3 : w7.cell? ⟨gb255, 3, none⟩ = some (.int .i16 a0_3) := (blk_cell BK255.out 3).trans rfl; have hcz8_4 : w7.cell? ⟨gb255, 4, none⟩ = some (.int .i16 a0_4) := (blk_cell BK255.out 4).trans rfl; have hcz8_5 : w7.cell? ⟨gb255, 5, none⟩ = some (.int .i8 a0_5) := (blk_cell BK255.out 5).trans rfl; have hfz8_0 := blk_frozen BK255.out 0; have hfz8_1 := blk_frozen BK255.out 1; have hfz8_2 := blk_frozen BK255.out 2; have hfz8_3 := blk_frozen BK255.out 3; have hfz8_4 := blk_frozen BK255.out 4; have hfz8_5 := blk_frozen BK255.out 5))
    go_ret
    exact ⟨by first | rfl | (simp [errW_none, errW_some] <;> rfl) | (simp [*, errW_none, errW_some] <;> rfl), by repeat (first | (with_reducible first | exact HB.out | apply below_alloc | apply pw_below_drewN | apply below_drew1 | refine below_set ?_ GE255.out) | exact HB.out)⟩
end Go.Proofs.Ytmheflciiodhdaa.P
-- Written by wip/tools/mkprint.py of this repo, over the kit's print, out of the translation; Lean checks it.
namespace Go.Proofs.Ytmheflciiodhdaa.P
open Go.RowKit Go.Proofs.YtmheflciiodhdaaW.PrintWords Go.Proofs.YtmheflciiodhdaaW.PrintLast Go.Proofs.YtmheflciiodhdaaW.PrintMore
attribute [local go_sem] max2_int min2_int max_two min_two max_three min_three max_four min_four   -- for this text's walks alone
set_option linter.unusedVariables false
set_option linter.unusedSimpArgs false
/-! ### spec_l05Behind: function 78 -/
def spec_l05Behind.l0 : Nat → List (S38) → Int → List Int → Int → Option (List Int)
  | 0, _, _, _, _ => none
  | k + 1, x1, x2, x7, x8 => if x8 < (x1.length : Int) then (if 0 ≤ x8 then ((spec_l05On.f ((rd_T38 x1 x8).f0) ((rd_T38 x1 x8).f1) ((rd_T38 x1 x8).f2) ((rd_T38 x1 x8).f3) ((rd_T38 x1 x8).f4) ((rd_T38 x1 x8).f5) x2).bind fun t265 => (if t265 = true then ((spec_l05Turned.f k x7 ((rd_T38 x1 x8).f0) ((rd_T38 x1 x8).f1) ((rd_T38 x1 x8).f2) ((rd_T38 x1 x8).f3) ((rd_T38 x1 x8).f4) ((rd_T38 x1 x8).f5) 1).bind fun t267 => (spec_l05Behind.l0 k x1 x2 t267 (wrap64 (x8 + 1)))) else (spec_l05Behind.l0 k x1 x2 x7 (wrap64 (x8 + 1))))) else (none)) else (some x7)
def spec_l05Behind.f (k : Nat) (l0 : List Int) (l1 : List (S38)) (a2 : Int) : Option (List Int) := (some (([] : List Int) : List Int)).bind fun y258 => (if y258.length + l0.length < 140737488355328 then (spec_l05Behind.l0 k l1 a2 (y258 ++ l0) 0) else (none))
theorem spec_l05Behind.mono_l : ∀ k, (∀ y0 y1 y2 y3, LeO (spec_l05Behind.l0 k y0 y1 y2 y3) (spec_l05Behind.l0 (k + 1) y0 y1 y2 y3))
  | 0 => fun _ _ _ _ r h => by simp [spec_l05Behind.l0] at h
  | k + 1 => by
    have ih0 := spec_l05Behind.mono_l k
    · intro y0 y1 y2 y3
      unfold spec_l05Behind.l0
      repeat' first
      | (with_reducible exact ih0 _ _ _ _)
      | (with_reducible exact spec_l05Turned.mono _ _ _ _ _ _ _ _ _)
      | (with_reducible exact LeO.refl _)
      | (with_reducible exact LeO.none _)
      | (with_reducible refine LeO.ite ?_ ?_)
      | (with_reducible refine LeO.bind ?_ (fun _ => ?_))
      | exact ih0 _ _ _ _
      | exact spec_l05Turned.mono _ _ _ _ _ _ _ _ _
      | exact LeO.none _
      | refine LeO.ite ?_ ?_
      | refine LeO.bind ?_ (fun _ => ?_)
theorem spec_l05Behind.mono : ∀ a0 a1 a2 k, LeO (spec_l05Behind.f k a0 a1 a2) (spec_l05Behind.f (k + 1) a0 a1 a2) := by
  intro a0 a1 a2 k
  have ih0 := spec_l05Behind.mono_l k
  unfold spec_l05Behind.f
  repeat' first
      | (with_reducible exact ih0 _ _ _ _)
      | (with_reducible exact spec_l05Turned.mono _ _ _ _ _ _ _ _ _)
      | (with_reducible exact LeO.refl _)
      | (with_reducible exact LeO.none _)
      | (with_reducible refine LeO.ite ?_ ?_)
      | (with_reducible refine LeO.bind ?_ (fun _ => ?_))
      | exact ih0 _ _ _ _
      | exact spec_l05Turned.mono _ _ _ _ _ _ _ _ _
      | exact LeO.none _
      | refine LeO.ite ?_ ?_
      | refine LeO.bind ?_ (fun _ => ?_)
set_option maxHeartbeats 8000000 in
set_option maxRecDepth 100000 in
theorem spec_l05Behind.calls (k : Nat) (A0 : Option Addr) (c0 : Nat) (l0 : List Int) (A1 : Option Addr) (c1 : Nat) (l1 : List (S38)) (a2 : Int) (r : List Int) (w : World) (hr0 : Kd.C (Kd.int .u8) w A0 l0.length l0) (hc0 : l0.length ≤ c0) (hr1 : Kd.C k38 w A1 l1.length l1) (hc1 : l1.length ≤ c1) (h : spec_l05Behind.f k l0 l1 a2 = some r) :
    Calls Try.prog 78 #[.slice A0 l0.length c0, .slice A1 l1.length c1, .int .i64 a2] w fun e w' => ∃ v0_ : Value, e = .returned (v0_) ∧ Kd.R (Kd.int .u8) 5 w' w.heap.size (fun _ => True) v0_ r ∧ Below w.heap.size w w' := by
  have hu38 := Try.underlying38
  have HR0 := Aside0.mk hr0
  have HC0 := Aside0.mk hc0
  clear hr0 hc0
  have HR1 := Aside0.mk hr1
  have HC1 := Aside0.mk hc1
  clear hr1 hc1
  have HB := Aside0.mk (Below.refl w.heap.size w)
  have H : ((some (([] : List Int) : List Int)).bind fun y258 => (if y258.length + l0.length < 140737488355328 then (spec_l05Behind.l0 k l1 a2 (y258 ++ l0) 0) else (none))) = some r := h
  clear h
  obtain ⟨y258, hy258⟩ : ∃ y_ : List Int, y_ = (([] : List Int)) := ⟨_, rfl⟩
  replace H : (if y258.length + l0.length < 140737488355328 then (spec_l05Behind.l0 k l1 a2 (y258 ++ l0) 0) else (none)) = some r := by first | (rw [hy258]; with_reducible exact H) | (have H2_ := (Option.bind_some _ _).symm.trans H; rw [hy258]; with_reducible exact H2_) | (have H2_ := (Option.bind_some _ _).symm.trans H; with_reducible exact H2_) | with_reducible exact H | (rw [hy258]; exact H) | exact H
  have Ny258 := Aside0.mk hy258
  clear hy258
  by_cases c4 : y258.length + l0.length < 140737488355328
  · rw [if_pos c4] at H
    have LMc4 := Aside0.mk c4
    clear c4
    obtain ⟨y261, hy261⟩ : ∃ y_ : List Int, y_ = (y258 ++ l0) := ⟨_, rfl⟩
    replace H : (spec_l05Behind.l0 k l1 a2 y261 0) = some r := by first | (rw [hy261]; with_reducible exact H) | (have H2_ := (Option.bind_some _ _).symm.trans H; rw [hy261]; with_reducible exact H2_) | (have H2_ := (Option.bind_some _ _).symm.trans H; with_reducible exact H2_) | with_reducible exact H | (rw [hy261]; exact H) | exact H
    have Ny261 := Aside0.mk hy261
    clear hy261
    have H' := Aside0.mk H
    clear H
    go_enter Try.func78, Try.ntmps78
    go_wp2_with (first | ((with_reducible refine gate_dst (N := 9) rfl ?_); refine Kd.R_lit (Kd.int .u8) _ 5 ?hg (N := 9) ?hd (xs := ([] : List Int)) (inner := []) (ok := fun _ => True) (okp := fun _ => True) ?hr ?hp (fun _ hk => hk) trivial (Below.refl _ _) (Nat.le_refl _) (by simp) ?_; (case hd => rfl); (case hg => rfl); (case hr => first | (go_simp; done) | (go_simp; rfl)); (case hp => exact (Reps.none _ _)); intro v259 w5 ho6 hb hg_ hnew_; clear hg_ hnew_; (first | rw [← Ny258.out] at ho6 | (simp only [Int.reduceToNat] at ho6; rw [← Ny258.out] at ho6)); have n0_ := Aside0.mk (Kd.R_lower ho6 (below_size (by repeat (first | (with_reducible first | exact HB.out | apply below_alloc | apply pw_below_drewN | apply below_drew1) | exact HB.out)))); have n1_ := Aside0.mk (below_step (by repeat (first | (with_reducible first | exact HB.out | apply below_alloc | apply pw_below_drewN | apply below_drew1) | exact HB.out)) hb); clear HB; have HO260 := n0_; have HB := n1_; clear n0_ n1_; clear hb ho6) | ((with_reducible refine gate_builtin (b := .append) (xs := #[.tmp 9, .tmp 10]) rfl ?_); at_builtin; refine Kd.R_append_rows (Kd.int .u8) (w0 := w) w.heap.size rfl (.tmp 9) (.tmp 10) 24 5 (.int .u8 0) 1 rfl Try.underlying24 info5 rfl (by decide) (by omega) v259 y258 l0 _ _ _ (fun _ => True) (fun _ => False) rfl rfl ?aO ?aR (fun _ _ h => h) (fun _ h => h.elim) ?aF ?aB ?aS ?aL ?_; (case aR => repeat (first | exact (Kd.C_below HR0.out HB.out) | (with_reducible refine Kd.C_alloc ?_ _) | (with_reducible refine Kd.C_drewN ?_ _) | (with_reducible refine Kd.C_drew ?_))); (case aB => exact (by repeat (first | (with_reducible first | exact HB.out | apply below_alloc | apply pw_below_drewN | apply below_drew1) | exact HB.out))); (case aF => exact (fun _ _ => trivial)); (case aO => exact (by (with_reducible repeat (first | apply Kd.R_alloc | apply Kd.R_drewN | apply Kd.R_drew)); exact HO260.out)); (case aS => exact (below_size (by repeat (first | (with_reducible first | exact HB.out | apply below_alloc | apply pw_below_drewN | apply below_drew1) | exact HB.out)))); (case aL => have := LMc4.out; omega); intro v262 w7 ho hb hg hat; rw [← Ny261.out] at ho; have n0_ := Aside0.mk (hb); have n1_ := Aside0.mk (ho); clear HB; clear HO260; have HB := n0_; have HO263 := n1_; clear n0_ n1_; clear ho hb hg hat))
    go_loopg [7, 8] k (fun kq v7 v8 w' => ∃ (x7_1 : List Int) (x8_1 : Int), v8 = .int .i64 x8_1 ∧ Aside0 (spec_l05Behind.l0 kq l1 a2 x7_1 x8_1 = some r) ∧ Aside0 (kq ≤ k) ∧ Aside0 (Kd.R (Kd.int .u8) 5 w' w.heap.size (fun _ => True) v7 x7_1) ∧ Aside0 (Below w.heap.size w w'))
    case atStart => exact ⟨(y261), (0), (by first | rfl | (simp; done) | (simp [*]; done)), H', ⟨Nat.le_refl _⟩, ⟨by (with_reducible repeat (first | apply Kd.R_alloc | apply Kd.R_drewN | apply Kd.R_drew)); exact HO263.out⟩, ⟨by repeat (first | (with_reducible first | exact HB.out | apply below_alloc | apply pw_below_drewN | apply below_drew1) | exact HB.out)⟩⟩
    case round =>
      clear H'
      try clear c1
      try clear p2
      try clear c4
      try clear c7
      obtain ⟨x7_1, x8_1, rfl, HA, HK1, HO_7, HB⟩ := hrel
      cases gk with
      | zero => exact absurd HA.out (by simp [spec_l05Behind.l0])
      | succ k1 =>
        have H := HA.out
        clear HA
        simp only [spec_l05Behind.l0] at H
        by_cases c8 : x8_1 < (l1.length : Int)
        · rw [if_pos c8] at H
          have c8b0 : decide (x8_1 < (l1.length : Int)) = true := decide_eq_true c8
          clear c8
          by_cases c9 : 0 ≤ x8_1
          · rw [if_pos c9] at H
            have c9b0 : decide (0 ≤ x8_1) = true := decide_eq_true c9
            clear c9
            replace H := Option.bind_eq_some_iff.mp H
            obtain ⟨t265, A100, H⟩ := H
            replace H : (if t265 = true then ((spec_l05Turned.f k1 x7_1 ((rd_T38 l1 x8_1).f0) ((rd_T38 l1 x8_1).f1) ((rd_T38 l1 x8_1).f2) ((rd_T38 l1 x8_1).f3) ((rd_T38 l1 x8_1).f4) ((rd_T38 l1 x8_1).f5) 1).bind fun t267 => (spec_l05Behind.l0 k1 l1 a2 t267 (wrap64 (x8_1 + 1)))) else (spec_l05Behind.l0 k1 l1 a2 x7_1 (wrap64 (x8_1 + 1)))) = some r := H
            have A10 := Aside0.mk A100
            clear A100
            by_cases c11 : t265 = true
            · subst c11
              have H1 : ((spec_l05Turned.f k1 x7_1 ((rd_T38 l1 x8_1).f0) ((rd_T38 l1 x8_1).f1) ((rd_T38 l1 x8_1).f2) ((rd_T38 l1 x8_1).f3) ((rd_T38 l1 x8_1).f4) ((rd_T38 l1 x8_1).f5) 1).bind fun t267 => (spec_l05Behind.l0 k1 l1 a2 t267 (wrap64 (x8_1 + 1)))) = some r := by rw [if_pos rfl] at H; exact H
              clear H
              have H := H1
              clear H1
              replace H := Option.bind_eq_some_iff.mp H
              obtain ⟨t267, A120, H⟩ := H
              replace H : (spec_l05Behind.l0 k1 l1 a2 t267 (wrap64 (x8_1 + 1))) = some r := H
              have A12 := Aside0.mk A120
              clear A120
              have H' := Aside0.mk H
              clear H
              have p264 : 0 ≤ (x8_1 : Int) := of_decide_eq_true (by first | (with_reducible assumption) | assumption)
              have q264 : x8_1 < (l1.length : Int) := of_decide_eq_true (by first | (with_reducible assumption) | assumption)
              obtain ⟨ad264, e264, hx264_0, hx264_1, hx264_2, hx264_3, hx264_4, hx264_5⟩ := at_T38 HR1.out x8_1 p264 q264
              cases e264
              replace hx264_0 := (HB.out.cell (World.block_lt_of_cell? w _ hx264_0)).trans hx264_0
              replace hx264_1 := (HB.out.cell (World.block_lt_of_cell? w _ hx264_1)).trans hx264_1
              replace hx264_2 := (HB.out.cell (World.block_lt_of_cell? w _ hx264_2)).trans hx264_2
              replace hx264_3 := (HB.out.cell (World.block_lt_of_cell? w _ hx264_3)).trans hx264_3
              replace hx264_4 := (HB.out.cell (World.block_lt_of_cell? w _ hx264_4)).trans hx264_4
              replace hx264_5 := (HB.out.cell (World.block_lt_of_cell? w _ hx264_5)).trans hx264_5
              replace p264 := eq_true p264
              replace q264 := eq_true q264
              go_wp2_with (first | ((with_reducible refine gate_callee (f := 77) rfl ?_); refine goesL_ (some 23) rfl rfl Try.func77 (by kernel_rfl) rfl #[.agg #[.int .i16 ((rd_T38 l1 x8_1).f0), .int .i16 ((rd_T38 l1 x8_1).f1), .int .i16 ((rd_T38 l1 x8_1).f2), .int .i16 ((rd_T38 l1 x8_1).f3), .int .i16 ((rd_T38 l1 x8_1).f4), .int .i8 ((rd_T38 l1 x8_1).f5)], .int .i64 a2] rfl (by (try simp only [List.map_toArray, List.map_cons, List.map_nil]); first | done | rfl | (simp only [List.length_drop, List.length_take]; rfl)) ?_; (with_reducible refine (spec_l05On.calls ((rd_T38 l1 x8_1).f0) ((rd_T38 l1 x8_1).f1) ((rd_T38 l1 x8_1).f2) ((rd_T38 l1 x8_1).f3) ((rd_T38 l1 x8_1).f4) ((rd_T38 l1 x8_1).f5) a2 true _ A10.out).mono ?_); rintro e w13 ⟨rfl, hb⟩; refine ⟨_, rfl, ?_⟩; have n0_ := Aside0.mk (Kd.R_below (by (with_reducible repeat (first | apply Kd.R_alloc | apply Kd.R_drewN | apply Kd.R_drew)); exact HO_7.out) hb); have n1_ := Aside0.mk (below_step (by repeat (first | (with_reducible first | exact HB.out | apply below_alloc | apply pw_below_drewN | apply below_drew1) | exact HB.out)) hb); clear HO_7; clear HB; have HO_7 := n0_; have HB := n1_; clear n0_ n1_; (try clear hb); (try clear hb2); (try clear hk); (try clear hi); have p266 : 0 ≤ (x8_1 : Int) := of_decide_eq_true (by first | (with_reducible assumption) | assumption); have q266 : x8_1 < (l1.length : Int) := of_decide_eq_true (by first | (with_reducible assumption) | assumption); obtain ⟨ad266, e266, hx266_0, hx266_1, hx266_2, hx266_3, hx266_4, hx266_5⟩ := at_T38 HR1.out x8_1 p266 q266; obtain rfl : ad264 = ad266 := (by injection e266); replace hx266_0 := (HB.out.cell (World.block_lt_of_cell? w _ hx266_0)).trans hx266_0; replace hx266_1 := (HB.out.cell (World.block_lt_of_cell? w _ hx266_1)).trans hx266_1; replace hx266_2 := (HB.out.cell (World.block_lt_of_cell? w _ hx266_2)).trans hx266_2; replace hx266_3 := (HB.out.cell (World.block_lt_of_cell? w _ hx266_3)).trans hx266_3; replace hx266_4 := (HB.out.cell (World.block_lt_of_cell? w _ hx266_4)).trans hx266_4; replace hx266_5 := (HB.out.cell (World.block_lt_of_cell? w _ hx266_5)).trans hx266_5; replace p266 := eq_true p266; replace q266 := eq_true q266; obtain ⟨Ao14, co14, eo14⟩ := Kd.R_slice HO_7.out; subst eo14) | ((with_reducible refine gate_callee (f := 76) rfl ?_); refine goesL_ (some 29) rfl rfl Try.func76 (by kernel_rfl) rfl #[.slice Ao14 x7_1.length co14, .agg #[.int .i16 ((rd_T38 l1 x8_1).f0), .int .i16 ((rd_T38 l1 x8_1).f1), .int .i16 ((rd_T38 l1 x8_1).f2), .int .i16 ((rd_T38 l1 x8_1).f3), .int .i16 ((rd_T38 l1 x8_1).f4), .int .i8 ((rd_T38 l1 x8_1).f5)], .int .i64 1] rfl (by (try simp only [List.map_toArray, List.map_cons, List.map_nil]); first | done | rfl | (simp only [List.length_drop, List.length_take]; rfl)) ?_; (with_reducible refine (spec_l05Turned.calls k1 _ _ x7_1 ((rd_T38 l1 x8_1).f0) ((rd_T38 l1 x8_1).f1) ((rd_T38 l1 x8_1).f2) ((rd_T38 l1 x8_1).f3) ((rd_T38 l1 x8_1).f4) ((rd_T38 l1 x8_1).f5) 1 t267 _ ?side1 ?side2 A12.out).mono ?_); (case side1 => repeat (first | exact (Kd.R_reads' HO_7.out).2.2 | (with_reducible refine Kd.C_alloc ?_ _) | (with_reducible refine Kd.C_drewN ?_ _) | (with_reducible refine Kd.C_drew ?_))); (case side2 => exact (Kd.R_reads' HO_7.out).2.1); rintro e w15 ⟨v268, rfl, ho0, hb⟩; refine ⟨_, rfl, ?_⟩; have n0_ := Aside0.mk (Kd.R_elder' (by (with_reducible repeat (first | apply Kd.R_alloc | apply Kd.R_drewN | apply Kd.R_drew)); exact HO_7.out) (Kd.R_base ho0) hb); have n1_ := Aside0.mk (Kd.R_lower (Kd.R_new' ho0 (Kd.R_lt (by (with_reducible repeat (first | apply Kd.R_alloc | apply Kd.R_drewN | apply Kd.R_drew)); exact HO_7.out))) (below_size (by repeat (first | (with_reducible first | exact HB.out | apply below_alloc | apply pw_below_drewN | apply below_drew1) | exact HB.out)))); have n2_ := Aside0.mk (below_step (by repeat (first | (with_reducible first | exact HB.out | apply below_alloc | apply pw_below_drewN | apply below_drew1) | exact HB.out)) hb); clear HO_7; clear HB; have HO_7 := n0_; have HO269 := n1_; have HB := n2_; clear n0_ n1_ n2_; (try clear hb); (try clear hb2); (try clear hk); (try clear hi); (try clear ho0)))
              go_roundg k1
              case measure => have := HK1.out; omega
              case rel => exact ⟨(t267), (wrap64 (x8_1 + 1)), (by first | rfl | (simp; done) | (simp [*]; done)), H', ⟨by have := HK1.out; omega⟩, ⟨by (with_reducible repeat (first | apply Kd.R_alloc | apply Kd.R_drewN | apply Kd.R_drew)); exact Kd.R_mono HO269.out (fun _ hk => trivial)⟩, ⟨by repeat (first | (with_reducible first | exact HB.out | apply below_alloc | apply pw_below_drewN | apply below_drew1) | exact HB.out)⟩⟩
            · replace c11 := Bool.eq_false_iff.mpr c11
              subst c11
              have H1 : (spec_l05Behind.l0 k1 l1 a2 x7_1 (wrap64 (x8_1 + 1))) = some r := by rw [if_neg (show ¬ (false = true) by decide)] at H; exact H
              clear H
              have H := H1
              clear H1
              have H' := Aside0.mk H
              clear H
              have p264 : 0 ≤ (x8_1 : Int) := of_decide_eq_true (by first | (with_reducible assumption) | assumption)
              have q264 : x8_1 < (l1.length : Int) := of_decide_eq_true (by first | (with_reducible assumption) | assumption)
              obtain ⟨ad264, e264, hx264_0, hx264_1, hx264_2, hx264_3, hx264_4, hx264_5⟩ := at_T38 HR1.out x8_1 p264 q264
              cases e264
              replace hx264_0 := (HB.out.cell (World.block_lt_of_cell? w _ hx264_0)).trans hx264_0
              replace hx264_1 := (HB.out.cell (World.block_lt_of_cell? w _ hx264_1)).trans hx264_1
              replace hx264_2 := (HB.out.cell (World.block_lt_of_cell? w _ hx264_2)).trans hx264_2
              replace hx264_3 := (HB.out.cell (World.block_lt_of_cell? w _ hx264_3)).trans hx264_3
              replace hx264_4 := (HB.out.cell (World.block_lt_of_cell? w _ hx264_4)).trans hx264_4
              replace hx264_5 := (HB.out.cell (World.block_lt_of_cell? w _ hx264_5)).trans hx264_5
              replace p264 := eq_true p264
              replace q264 := eq_true q264
              go_wp2_with (first | ((with_reducible refine gate_callee (f := 77) rfl ?_); refine goesL_ (some 23) rfl rfl Try.func77 (by kernel_rfl) rfl #[.agg #[.int .i16 ((rd_T38 l1 x8_1).f0), .int .i16 ((rd_T38 l1 x8_1).f1), .int .i16 ((rd_T38 l1 x8_1).f2), .int .i16 ((rd_T38 l1 x8_1).f3), .int .i16 ((rd_T38 l1 x8_1).f4), .int .i8 ((rd_T38 l1 x8_1).f5)], .int .i64 a2] rfl (by (try simp only [List.map_toArray, List.map_cons, List.map_nil]); first | done | rfl | (simp only [List.length_drop, List.length_take]; rfl)) ?_; (with_reducible refine (spec_l05On.calls ((rd_T38 l1 x8_1).f0) ((rd_T38 l1 x8_1).f1) ((rd_T38 l1 x8_1).f2) ((rd_T38 l1 x8_1).f3) ((rd_T38 l1 x8_1).f4) ((rd_T38 l1 x8_1).f5) a2 false _ A10.out).mono ?_); rintro e w16 ⟨rfl, hb⟩; refine ⟨_, rfl, ?_⟩; have n0_ := Aside0.mk (Kd.R_below (by (with_reducible repeat (first | apply Kd.R_alloc | apply Kd.R_drewN | apply Kd.R_drew)); exact HO_7.out) hb); have n1_ := Aside0.mk (below_step (by repeat (first | (with_reducible first | exact HB.out | apply below_alloc | apply pw_below_drewN | apply below_drew1) | exact HB.out)) hb); clear HO_7; clear HB; have HO_7 := n0_; have HB := n1_; clear n0_ n1_; (try clear hb); (try clear hb2); (try clear hk); (try clear hi)))
              go_roundg k1
              case measure => have := HK1.out; omega
              case rel => exact ⟨(x7_1), (wrap64 (x8_1 + 1)), (by first | rfl | (simp; done) | (simp [*]; done)), H', ⟨by have := HK1.out; omega⟩, ⟨by (with_reducible repeat (first | apply Kd.R_alloc | apply Kd.R_drewN | apply Kd.R_drew)); exact HO_7.out⟩, ⟨by repeat (first | (with_reducible first | exact HB.out | apply below_alloc | apply pw_below_drewN | apply below_drew1) | exact HB.out)⟩⟩
          · rw [if_neg c9] at H
            exact absurd H (by simp)
        · rw [if_neg c8] at H
          have c8b0 : decide (x8_1 < (l1.length : Int)) = false := decide_eq_false c8
          clear c8
          obtain rfl := Option.some.inj H
          go_wp2
          go_ret
          exact ⟨_, by first | rfl | (simp [errW_none, errW_some] <;> rfl) | (simp [*, errW_none, errW_some] <;> rfl), by (with_reducible repeat (first | apply Kd.R_alloc | apply Kd.R_drewN | apply Kd.R_drew)); exact HO_7.out, by repeat (first | (with_reducible first | exact HB.out | apply below_alloc | apply pw_below_drewN | apply below_drew1) | exact HB.out)⟩
  · rw [if_neg c4] at H
    exact absurd H (by simp)
end Go.Proofs.Ytmheflciiodhdaa.P
-- Written by wip/tools/mkprint.py of this repo, over the kit's print, out of the translation; Lean checks it.
namespace Go.Proofs.Ytmheflciiodhdaa.P
open Go.RowKit Go.Proofs.YtmheflciiodhdaaW.PrintWords Go.Proofs.YtmheflciiodhdaaW.PrintLast Go.Proofs.YtmheflciiodhdaaW.PrintMore
attribute [local go_sem] max2_int min2_int max_two min_two max_three min_three max_four min_four   -- for this text's walks alone
set_option linter.unusedVariables false
set_option linter.unusedSimpArgs false
/-! ### impl_codeOf: function 67 -/
def impl_codeOf.f (a0 : Bool) (a1 : Bool) : Option (Int) := if a0 = true then (if a1 = true then (some 0) else (some 2)) else (some 1)
set_option maxHeartbeats 8000000 in
set_option maxRecDepth 100000 in
theorem impl_codeOf.calls (a0 : Bool) (a1 : Bool) (r : Int) (w : World) (h : impl_codeOf.f a0 a1 = some r) :
    Calls Try.prog 67 #[.bool a0, .bool a1] w fun e w' => e = .returned (.int .i64 r) ∧ Drawn0 w w' := by
  have H : (if a0 = true then (if a1 = true then (some 0) else (some 2)) else (some 1)) = some r := h
  clear h
  by_cases c3 : a0 = true
  · subst c3
    have H1 : (if a1 = true then (some 0) else (some 2)) = some r := by rw [if_pos rfl] at H; exact H
    clear H
    have H := H1
    clear H1
    by_cases c4 : a1 = true
    · subst c4
      have H1 : (some 0) = some r := by rw [if_pos rfl] at H; exact H
      clear H
      have H := H1
      clear H1
      obtain rfl := Option.some.inj H
      go_enter Try.func67, Try.ntmps67
      go_wp2
      go_ret
      exact ⟨by first | rfl | (simp; done) | (simp [*]; done), by repeat (first | exact Drawn0.refl _ | apply Drawn0.step)⟩
    · replace c4 := Bool.eq_false_iff.mpr c4
      subst c4
      have H1 : (some 2) = some r := by rw [if_neg (show ¬ (false = true) by decide)] at H; exact H
      clear H
      have H := H1
      clear H1
      obtain rfl := Option.some.inj H
      go_enter Try.func67, Try.ntmps67
      go_wp2
      go_ret
      exact ⟨by first | rfl | (simp; done) | (simp [*]; done), by repeat (first | exact Drawn0.refl _ | apply Drawn0.step)⟩
  · replace c3 := Bool.eq_false_iff.mpr c3
    subst c3
    have H1 : (some 1) = some r := by rw [if_neg (show ¬ (false = true) by decide)] at H; exact H
    clear H
    have H := H1
    clear H1
    obtain rfl := Option.some.inj H
    go_enter Try.func67, Try.ntmps67
    go_wp2
    go_ret
    exact ⟨by first | rfl | (simp; done) | (simp [*]; done), by repeat (first | exact Drawn0.refl _ | apply Drawn0.step)⟩
end Go.Proofs.Ytmheflciiodhdaa.P
-- Written by wip/tools/mkprint.py of this repo, over the kit's print, out of the translation; Lean checks it.
namespace Go.Proofs.Ytmheflciiodhdaa.P
open Go.RowKit Go.Proofs.YtmheflciiodhdaaW.PrintWords Go.Proofs.YtmheflciiodhdaaW.PrintLast Go.Proofs.YtmheflciiodhdaaW.PrintMore
attribute [local go_sem] max2_int min2_int max_two min_two max_three min_three max_four min_four   -- for this text's walks alone
set_option linter.unusedVariables false
set_option linter.unusedSimpArgs false
/-! ### impl_isDay: function 79 -/
def impl_isDay.f (l0 : List Int) : Option (Bool) := (impl_allWithin.f l0 0 10000).bind fun t239 => (some t239)
set_option maxHeartbeats 8000000 in
set_option maxRecDepth 100000 in
theorem impl_isDay.calls (A0 : Option Addr) (c0 : Nat) (l0 : List Int) (r : Bool) (w : World) (hr0 : Kd.C (Kd.int .i64) w A0 l0.length l0) (hc0 : l0.length ≤ c0) (h : impl_isDay.f l0 = some r) :
    Calls Try.prog 79 #[.slice A0 l0.length c0] w fun e w' => e = .returned (.bool r) ∧ Below w.heap.size w w' := by
  have HR0 := Aside0.mk hr0
  have HC0 := Aside0.mk hc0
  clear hr0 hc0
  have HB := Aside0.mk (Below.refl w.heap.size w)
  have H : ((impl_allWithin.f l0 0 10000).bind fun t239 => (some t239)) = some r := h
  clear h
  replace H := Option.bind_eq_some_iff.mp H
  obtain ⟨t239, A20, H⟩ := H
  replace H : (some t239) = some r := H
  have A2 := Aside0.mk A20
  clear A20
  obtain rfl := Option.some.inj H
  go_enter Try.func79, Try.ntmps79
  go_wp2_with (first | ((with_reducible refine gate_callee (f := 112) rfl ?_); refine goesL_ (some 4) rfl rfl Try.func112 (by kernel_rfl) rfl #[.slice A0 l0.length c0, .int .i64 0, .int .i64 10000] rfl (by (try simp only [List.map_toArray, List.map_cons, List.map_nil]); first | done | rfl | (simp only [List.length_drop, List.length_take]; rfl)) ?_; (with_reducible refine (impl_allWithin.calls _ _ l0 0 10000 t239 _ ?side1 ?side2 A2.out).mono ?_); (case side1 => repeat (first | exact HR0.out | (with_reducible refine Kd.C_alloc ?_ _) | (with_reducible refine Kd.C_drewN ?_ _) | (with_reducible refine Kd.C_drew ?_))); (case side2 => exact HC0.out); rintro e w3 ⟨rfl, hb⟩; refine ⟨_, rfl, ?_⟩; have n0_ := Aside0.mk (below_step (by repeat (first | (with_reducible first | exact HB.out | apply below_alloc | apply pw_below_drewN | apply below_drew1) | exact HB.out)) hb); clear HB; have HB := n0_; clear n0_; (try clear hb); (try clear hb2); (try clear hk); (try clear hi)))
  go_ret
  exact ⟨by first | rfl | (simp [errW_none, errW_some] <;> rfl) | (simp [*, errW_none, errW_some] <;> rfl), by repeat (first | (with_reducible first | exact HB.out | apply below_alloc | apply pw_below_drewN | apply below_drew1) | exact HB.out)⟩
end Go.Proofs.Ytmheflciiodhdaa.P
-- Written by wip/tools/mkprint.py of this repo, over the kit's print, out of the translation; Lean checks it.
namespace Go.Proofs.Ytmheflciiodhdaa.P
open Go.RowKit Go.Proofs.YtmheflciiodhdaaW.PrintWords Go.Proofs.YtmheflciiodhdaaW.PrintLast Go.Proofs.YtmheflciiodhdaaW.PrintMore
attribute [local go_sem] max2_int min2_int max_two min_two max_three min_three max_four min_four   -- for this text's walks alone
set_option linter.unusedVariables false
set_option linter.unusedSimpArgs false
/-! ### impl_spanCode: function 86 -/
def impl_spanCode.j0 : Nat → Int → Int → Int → Option (Int)
  | 0, _, _, _ => none
  | k + 1, x1, x2, x7 => if x7 = 0 then (if (wrap64 ((wrap64 (x2 - x1)) + 1)) > 400 then (some 3) else (some 0)) else (some x7)
def impl_spanCode.f (k : Nat) (a0 : Bool) (a1 : Int) (a2 : Int) : Option (Int) := (impl_isDay.f (([a1, a2] : List Int))).bind fun t247 => (if t247 = true then ((impl_codeOf.f a0 (decide (a1 ≤ a2))).bind fun t248 => (impl_spanCode.j0 k a1 a2 t248)) else ((impl_codeOf.f a0 false).bind fun t249 => (impl_spanCode.j0 k a1 a2 t249)))
theorem impl_spanCode.mono_l : ∀ k, (∀ y0 y1 y2, LeO (impl_spanCode.j0 k y0 y1 y2) (impl_spanCode.j0 (k + 1) y0 y1 y2))
  | 0 => fun _ _ _ r h => by simp [impl_spanCode.j0] at h
  | k + 1 => by
    have ih0 := impl_spanCode.mono_l k
    · intro y0 y1 y2
      unfold impl_spanCode.j0
      repeat' first
      | (with_reducible exact ih0 _ _ _)
      | (with_reducible exact LeO.refl _)
      | (with_reducible exact LeO.none _)
      | (with_reducible refine LeO.ite ?_ ?_)
      | (with_reducible refine LeO.bind ?_ (fun _ => ?_))
      | exact ih0 _ _ _
      | exact LeO.none _
      | refine LeO.ite ?_ ?_
      | refine LeO.bind ?_ (fun _ => ?_)
theorem impl_spanCode.mono : ∀ a0 a1 a2 k, LeO (impl_spanCode.f k a0 a1 a2) (impl_spanCode.f (k + 1) a0 a1 a2) := by
  intro a0 a1 a2 k
  have ih0 := impl_spanCode.mono_l k
  unfold impl_spanCode.f
  repeat' first
      | (with_reducible exact ih0 _ _ _)
      | (with_reducible exact LeO.refl _)
      | (with_reducible exact LeO.none _)
      | (with_reducible refine LeO.ite ?_ ?_)
      | (with_reducible refine LeO.bind ?_ (fun _ => ?_))
      | exact ih0 _ _ _
      | exact LeO.none _
      | refine LeO.ite ?_ ?_
      | refine LeO.bind ?_ (fun _ => ?_)
set_option maxHeartbeats 8000000 in
set_option maxRecDepth 100000 in
theorem impl_spanCode.calls (k : Nat) (a0 : Bool) (a1 : Int) (a2 : Int) (r : Int) (w : World) (h : impl_spanCode.f k a0 a1 a2 = some r) :
    Calls Try.prog 86 #[.bool a0, .int .i64 a1, .int .i64 a2] w fun e w' => e = .returned (.int .i64 r) ∧ Below w.heap.size w w' := by
  have HB := Aside0.mk (Below.refl w.heap.size w)
  have H : ((impl_isDay.f (([a1, a2] : List Int))).bind fun t247 => (if t247 = true then ((impl_codeOf.f a0 (decide (a1 ≤ a2))).bind fun t248 => (impl_spanCode.j0 k a1 a2 t248)) else ((impl_codeOf.f a0 false).bind fun t249 => (impl_spanCode.j0 k a1 a2 t249)))) = some r := h
  clear h
  have HC4 := Aside0.mk H
  clear H
  go_enter Try.func86, Try.ntmps86
  go_upto_region 1 with (fail)
  go_cut [7] (fun v7 wc => ∃ (kq : Nat) (x7_3 : Int), v7 = .int .i64 x7_3 ∧ Aside0 (impl_spanCode.j0 kq a1 a2 x7_3 = some r) ∧ Aside0 (kq ≤ k) ∧ Aside0 (Below w.heap.size w wc))
  case first =>
    have H := HC4.out
    clear HC4
    obtain ⟨y244, hy244⟩ : ∃ y_ : List Int, y_ = (([a1, a2] : List Int)) := ⟨_, rfl⟩
    replace H : ((impl_isDay.f y244).bind fun t247 => (if t247 = true then ((impl_codeOf.f a0 (decide (a1 ≤ a2))).bind fun t248 => (impl_spanCode.j0 k a1 a2 t248)) else ((impl_codeOf.f a0 false).bind fun t249 => (impl_spanCode.j0 k a1 a2 t249)))) = some r := by first | (rw [hy244]; with_reducible exact H) | (have H2_ := (Option.bind_some _ _).symm.trans H; rw [hy244]; with_reducible exact H2_) | (have H2_ := (Option.bind_some _ _).symm.trans H; with_reducible exact H2_) | with_reducible exact H | (rw [hy244]; exact H) | exact H
    have Ny244 := Aside0.mk hy244
    clear hy244
    replace H := Option.bind_eq_some_iff.mp H
    obtain ⟨t247, A50, H⟩ := H
    replace H : (if t247 = true then ((impl_codeOf.f a0 (decide (a1 ≤ a2))).bind fun t248 => (impl_spanCode.j0 k a1 a2 t248)) else ((impl_codeOf.f a0 false).bind fun t249 => (impl_spanCode.j0 k a1 a2 t249))) = some r := H
    have A5 := Aside0.mk A50
    clear A50
    by_cases c6 : t247 = true
    · subst c6
      have H1 : ((impl_codeOf.f a0 (decide (a1 ≤ a2))).bind fun t248 => (impl_spanCode.j0 k a1 a2 t248)) = some r := by rw [if_pos rfl] at H; exact H
      clear H
      have H := H1
      clear H1
      replace H := Option.bind_eq_some_iff.mp H
      obtain ⟨t248, A70, H⟩ := H
      replace H : (impl_spanCode.j0 k a1 a2 t248) = some r := H
      have A7 := Aside0.mk A70
      clear A70
      have H' := Aside0.mk H
      clear H
      go_wp2_with (first | ((with_reducible refine gate_dst (N := 11) rfl ?_); refine Kd.R_lit (Kd.int .i64) _ 2 ?hg (N := 11) ?hd (xs := ([a1, a2] : List Int)) (inner := [.int .i64 a1, .int .i64 a2]) (ok := fun _ => True) (okp := fun _ => True) ?hr ?hp (fun _ hk => hk) trivial (Below.refl _ _) (Nat.le_refl _) (by simp) ?_; (case hd => rfl); (case hg => rfl); (case hr => first | (go_simp; done) | (go_simp; rfl)); (case hp => exact (Reps.one (show Kd.M (Kd.int .i64) _ _ _ a1 [.int .i64 a1] from rfl) (Reps.one (show Kd.M (Kd.int .i64) _ _ _ a2 [.int .i64 a2] from rfl) (Reps.none _ _)))); intro v245 w8 ho9 hb hg_ hnew_; clear hg_ hnew_; (first | rw [← Ny244.out] at ho9 | (simp only [Int.reduceToNat] at ho9; rw [← Ny244.out] at ho9)); have n0_ := Aside0.mk (Kd.R_lower ho9 (below_size (by repeat (first | (with_reducible first | exact HB.out | apply below_alloc | apply pw_below_drewN | apply below_drew1) | exact HB.out)))); have n1_ := Aside0.mk (below_step (by repeat (first | (with_reducible first | exact HB.out | apply below_alloc | apply pw_below_drewN | apply below_drew1) | exact HB.out)) hb); clear HB; have HO246 := n0_; have HB := n1_; clear n0_ n1_; clear hb ho9; obtain ⟨Ao10, co10, eo10⟩ := Kd.R_slice HO246.out; subst eo10) | ((with_reducible refine gate_callee (f := 79) rfl ?_); refine goesL_ (some 12) rfl rfl Try.func79 (by kernel_rfl) rfl #[.slice Ao10 y244.length co10] rfl (by (try simp only [List.map_toArray, List.map_cons, List.map_nil]); first | done | rfl | (simp only [List.length_drop, List.length_take]; rfl)) ?_; (with_reducible refine (impl_isDay.calls _ _ y244 true _ ?side1 ?side2 A5.out).mono ?_); (case side1 => repeat (first | exact (Kd.R_reads' HO246.out).2.2 | (with_reducible refine Kd.C_alloc ?_ _) | (with_reducible refine Kd.C_drewN ?_ _) | (with_reducible refine Kd.C_drew ?_))); (case side2 => exact (Kd.R_reads' HO246.out).2.1); rintro e w11 ⟨rfl, hb⟩; refine ⟨_, rfl, ?_⟩; have n0_ := Aside0.mk (Kd.R_below (by (with_reducible repeat (first | apply Kd.R_alloc | apply Kd.R_drewN | apply Kd.R_drew)); exact HO246.out) hb); have n1_ := Aside0.mk (below_step (by repeat (first | (with_reducible first | exact HB.out | apply below_alloc | apply pw_below_drewN | apply below_drew1) | exact HB.out)) hb); clear HO246; clear HB; have HO246 := n0_; have HB := n1_; clear n0_ n1_; (try clear hb); (try clear hb2); (try clear hk); (try clear hi)) | ((with_reducible refine gate_callee (f := 67) rfl ?_); refine goesL_ (some 18) rfl rfl Try.func67 (by kernel_rfl) rfl #[.bool a0, .bool (decide (a1 ≤ a2))] rfl (by (try simp only [List.map_toArray, List.map_cons, List.map_nil]); first | done | rfl | (simp only [List.length_drop, List.length_take]; rfl)) ?_; (with_reducible refine (impl_codeOf.calls a0 (decide (a1 ≤ a2)) t248 _ A7.out).mono ?_); rintro e w' ⟨rfl, ⟨nd, rfl⟩⟩; refine ⟨_, rfl, ?_⟩))
      go_meet
      case rel => exact ⟨_, (t248), (by first | rfl | (simp; done) | (simp [*]; done)), H', ⟨by first | omega | exact Nat.le_refl _⟩, ⟨by repeat (first | (with_reducible first | exact HB.out | apply below_alloc | apply pw_below_drewN | apply below_drew1) | exact HB.out)⟩⟩
    · replace c6 := Bool.eq_false_iff.mpr c6
      subst c6
      have H1 : ((impl_codeOf.f a0 false).bind fun t249 => (impl_spanCode.j0 k a1 a2 t249)) = some r := by rw [if_neg (show ¬ (false = true) by decide)] at H; exact H
      clear H
      have H := H1
      clear H1
      replace H := Option.bind_eq_some_iff.mp H
      obtain ⟨t249, A120, H⟩ := H
      replace H : (impl_spanCode.j0 k a1 a2 t249) = some r := H
      have A12 := Aside0.mk A120
      clear A120
      have H' := Aside0.mk H
      clear H
      go_wp2_with (first | ((with_reducible refine gate_dst (N := 11) rfl ?_); refine Kd.R_lit (Kd.int .i64) _ 2 ?hg (N := 11) ?hd (xs := ([a1, a2] : List Int)) (inner := [.int .i64 a1, .int .i64 a2]) (ok := fun _ => True) (okp := fun _ => True) ?hr ?hp (fun _ hk => hk) trivial (Below.refl _ _) (Nat.le_refl _) (by simp) ?_; (case hd => rfl); (case hg => rfl); (case hr => first | (go_simp; done) | (go_simp; rfl)); (case hp => exact (Reps.one (show Kd.M (Kd.int .i64) _ _ _ a1 [.int .i64 a1] from rfl) (Reps.one (show Kd.M (Kd.int .i64) _ _ _ a2 [.int .i64 a2] from rfl) (Reps.none _ _)))); intro v245 w13 ho14 hb hg_ hnew_; clear hg_ hnew_; (first | rw [← Ny244.out] at ho14 | (simp only [Int.reduceToNat] at ho14; rw [← Ny244.out] at ho14)); have n0_ := Aside0.mk (Kd.R_lower ho14 (below_size (by repeat (first | (with_reducible first | exact HB.out | apply below_alloc | apply pw_below_drewN | apply below_drew1) | exact HB.out)))); have n1_ := Aside0.mk (below_step (by repeat (first | (with_reducible first | exact HB.out | apply below_alloc | apply pw_below_drewN | apply below_drew1) | exact HB.out)) hb); clear HB; have HO246 := n0_; have HB := n1_; clear n0_ n1_; clear hb ho14; obtain ⟨Ao15, co15, eo15⟩ := Kd.R_slice HO246.out; subst eo15) | ((with_reducible refine gate_callee (f := 79) rfl ?_); refine goesL_ (some 12) rfl rfl Try.func79 (by kernel_rfl) rfl #[.slice Ao15 y244.length co15] rfl (by (try simp only [List.map_toArray, List.map_cons, List.map_nil]); first | done | rfl | (simp only [List.length_drop, List.length_take]; rfl)) ?_; (with_reducible refine (impl_isDay.calls _ _ y244 false _ ?side1 ?side2 A5.out).mono ?_); (case side1 => repeat (first | exact (Kd.R_reads' HO246.out).2.2 | (with_reducible refine Kd.C_alloc ?_ _) | (with_reducible refine Kd.C_drewN ?_ _) | (with_reducible refine Kd.C_drew ?_))); (case side2 => exact (Kd.R_reads' HO246.out).2.1); rintro e w16 ⟨rfl, hb⟩; refine ⟨_, rfl, ?_⟩; have n0_ := Aside0.mk (Kd.R_below (by (with_reducible repeat (first | apply Kd.R_alloc | apply Kd.R_drewN | apply Kd.R_drew)); exact HO246.out) hb); have n1_ := Aside0.mk (below_step (by repeat (first | (with_reducible first | exact HB.out | apply below_alloc | apply pw_below_drewN | apply below_drew1) | exact HB.out)) hb); clear HO246; clear HB; have HO246 := n0_; have HB := n1_; clear n0_ n1_; (try clear hb); (try clear hb2); (try clear hk); (try clear hi)) | ((with_reducible refine gate_callee (f := 67) rfl ?_); refine goesL_ (some 18) rfl rfl Try.func67 (by kernel_rfl) rfl #[.bool a0, .bool false] rfl (by (try simp only [List.map_toArray, List.map_cons, List.map_nil]); first | done | rfl | (simp only [List.length_drop, List.length_take]; rfl)) ?_; (with_reducible refine (impl_codeOf.calls a0 false t249 _ A12.out).mono ?_); rintro e w' ⟨rfl, ⟨nd, rfl⟩⟩; refine ⟨_, rfl, ?_⟩))
      go_meet
      case rel => exact ⟨_, (t249), (by first | rfl | (simp; done) | (simp [*]; done)), H', ⟨by first | omega | exact Nat.le_refl _⟩, ⟨by repeat (first | (with_reducible first | exact HB.out | apply below_alloc | apply pw_below_drewN | apply below_drew1) | exact HB.out)⟩⟩
  case rest =>
    clear HC4
    try clear p2
    try clear c6
    try clear c7
    try clear c8
    obtain ⟨kq, x7_3, rfl, HA, HJ3, HB⟩ := hcut
    cases kq with
    | zero => exact absurd HA.out (by simp [impl_spanCode.j0])
    | succ kj3 =>
      have H := HA.out
      clear HA
      simp only [impl_spanCode.j0] at H
      by_cases c17 : x7_3 = 0
      · rw [if_pos c17] at H
        have c17b0 : (x7_3 == 0) = true := beq_iff_eq.mpr c17
        have c17b1 : (x7_3 != 0) = false := bne_eq_false_iff_eq.mpr c17
        clear c17
        by_cases c18 : (wrap64 ((wrap64 (a2 - a1)) + 1)) > 400
        · rw [if_pos c18] at H
          have c18b0 : decide (400 < (wrap64 ((wrap64 (a2 - a1)) + 1))) = true := decide_eq_true c18
          clear c18
          obtain rfl := Option.some.inj H
          go_wp2
          go_ret
          exact ⟨by first | rfl | (simp [errW_none, errW_some] <;> rfl) | (simp [*, errW_none, errW_some] <;> rfl), by repeat (first | (with_reducible first | exact HB.out | apply below_alloc | apply pw_below_drewN | apply below_drew1) | exact HB.out)⟩
        · rw [if_neg c18] at H
          have c18b0 : decide (400 < (wrap64 ((wrap64 (a2 - a1)) + 1))) = false := decide_eq_false c18
          clear c18
          obtain rfl := Option.some.inj H
          go_wp2
          go_ret
          exact ⟨by first | rfl | (simp [errW_none, errW_some] <;> rfl) | (simp [*, errW_none, errW_some] <;> rfl), by repeat (first | (with_reducible first | exact HB.out | apply below_alloc | apply pw_below_drewN | apply below_drew1) | exact HB.out)⟩
      · rw [if_neg c17] at H
        have c17b0 : (x7_3 == 0) = false := beq_eq_false_iff_ne.mpr c17
        have c17b1 : (x7_3 != 0) = true := bne_iff_ne.mpr c17
        obtain rfl := Option.some.inj H
        go_wp2
        go_ret
        exact ⟨by first | rfl | (simp [errW_none, errW_some] <;> rfl) | (simp [*, errW_none, errW_some] <;> rfl), by repeat (first | (with_reducible first | exact HB.out | apply below_alloc | apply pw_below_drewN | apply below_drew1) | exact HB.out)⟩
end Go.Proofs.Ytmheflciiodhdaa.P
-- Written by wip/tools/mkprint.py of this repo, over the kit's print, out of the translation; Lean checks it.
namespace Go.Proofs.Ytmheflciiodhdaa.P
open Go.RowKit Go.Proofs.YtmheflciiodhdaaW.PrintWords Go.Proofs.YtmheflciiodhdaaW.PrintLast Go.Proofs.YtmheflciiodhdaaW.PrintMore
attribute [local go_sem] max2_int min2_int max_two min_two max_three min_three max_four min_four   -- for this text's walks alone
set_option linter.unusedVariables false
set_option linter.unusedSimpArgs false
/-! ### impl_Walker_until: function 95 -/
def impl_Walker_until.f (a0_0 : Int) (a0_1 : Int) (a0_2 : Int) (a0_3 : Int) (a0_4 : Int) (a0_5 : Int) (a1 : Int) : Option (Int) := if a1 < (wrap64 (a0_0)) then (some 0) else (if (wrap64 (a0_1)) = 0 then (none) else (some (wrap64 ((wrap64 (Int.tdiv (wrap64 (a1 - (wrap64 (a0_0)))) (wrap64 (a0_1)))) + 1))))
set_option maxHeartbeats 8000000 in
set_option maxRecDepth 100000 in
theorem impl_Walker_until.calls (a0_0 : Int) (a0_1 : Int) (a0_2 : Int) (a0_3 : Int) (a0_4 : Int) (a0_5 : Int) (a1 : Int) (r : Int) (w : World) (h : impl_Walker_until.f a0_0 a0_1 a0_2 a0_3 a0_4 a0_5 a1 = some r) :
    Calls Try.prog 95 #[.agg #[.int .i16 a0_0, .int .i16 a0_1, .int .i16 a0_2, .int .i16 a0_3, .int .i16 a0_4, .int .i8 a0_5], .int .i64 a1] w fun e w' => e = .returned (.int .i64 r) ∧ Below w.heap.size w w' := by
  have hu38 := Try.underlying38
  have HB := Aside0.mk (Below.refl w.heap.size w)
  have H : (if a1 < (wrap64 (a0_0)) then (some 0) else (if (wrap64 (a0_1)) = 0 then (none) else (some (wrap64 ((wrap64 (Int.tdiv (wrap64 (a1 - (wrap64 (a0_0)))) (wrap64 (a0_1)))) + 1))))) = some r := h
  clear h
  by_cases c3 : a1 < (wrap64 (a0_0))
  · rw [if_pos c3] at H
    have c3b0 : decide (a1 < (wrap64 (a0_0))) = true := decide_eq_true c3
    clear c3
    obtain rfl := Option.some.inj H
    go_enter Try.func95, Try.ntmps95
    go_wp2_with (first | ((with_reducible refine gate_dst (N := 2) rfl ?_); refine box_event ?hg (N := 2) ?hd (cs := #[.int .i16 a0_0, .int .i16 a0_1, .int .i16 a0_2, .int .i16 a0_3, .int .i16 a0_4, .int .i8 a0_5]) (t := 38) ?hr ?_; (case hd => rfl); (case hg => rfl); (case hr => first | (go_simp; done) | (go_simp; rfl)); intro gb240 hg w4 hbox hb; have n0_ := Aside0.mk (below_step (by repeat (first | (with_reducible first | exact HB.out | apply below_alloc | apply pw_below_drewN | apply below_drew1) | exact HB.out)) hb); have n1_ := Aside0.mk (hbox); have n2_ := Aside0.mk ((by rw [hg]; exact (below_size (by repeat (first | (with_reducible first | exact HB.out | apply below_alloc | apply pw_below_drewN | apply below_drew1) | exact HB.out))) : w.heap.size ≤ gb240)); have n3_ := Aside0.mk ((by rw [hg]; exact (below_size (by repeat (first | (with_reducible first | exact HB.out | apply below_alloc | apply pw_below_drewN | apply below_drew1) | exact HB.out))) : w.heap.size ≤ gb240)); clear HB; have HB := n0_; have BK240 := n1_; have GW240 := n2_; have GE240 := n3_; clear n0_ n1_ n2_ n3_; clear hb hbox hg; have hcz5_0 : w4.cell? ⟨gb240, 0, none⟩ = some (.int .i16 a0_0) := (blk_cell BK240.out 0).trans rfl; have hcz5_1 : w4.cell? ⟨gb240, 1, none⟩ = some (.int .i16 a0_1) := (blk_cell BK240.out 1).trans rfl; have hcz5_2 : w4.cell? ⟨gb240, 2, none⟩ = some (.int .i16 a0_2) := (blk_cell BK240.out 2).trans rfl; have hcz5_3 : w4.cell? ⟨gb240, 3, none⟩ = some (.int .i16 a0_3) := (blk_cell BK240.out 3).trans rfl; have hcz5_4 : w4.cell? ⟨gb240, 4, none⟩ = some (.int .i16 a0_4) := (blk_cell BK240.out 4).trans rfl; have hcz5_5 : w4.cell? ⟨gb240, 5, none⟩ = some (.int .i8 a0_5) := (blk_cell BK240.out 5).trans rfl; have hfz5_0 := blk_frozen BK240.out 0; have hfz5_1 := blk_frozen BK240.out 1; have hfz5_2 := blk_frozen BK240.out 2; have hfz5_3 := blk_frozen BK240.out 3; have hfz5_4 := blk_frozen BK240.out 4; have hfz5_5 := blk_frozen BK240.out 5))
    go_ret
    exact ⟨by first | rfl | (simp [errW_none, errW_some] <;> rfl) | (simp [*, errW_none, errW_some] <;> rfl), by repeat (first | (with_reducible first | exact HB.out | apply below_alloc | apply pw_below_drewN | apply below_drew1 | refine below_set ?_ GE240.out) | exact HB.out)⟩
  · rw [if_neg c3] at H
    have c3b0 : decide (a1 < (wrap64 (a0_0))) = false := decide_eq_false c3
    clear c3
    by_cases c6 : (wrap64 (a0_1)) = 0
    · rw [if_pos c6] at H
      exact absurd H (by simp)
    · rw [if_neg c6] at H
      have c6b0 : ((wrap64 (a0_1)) == 0) = false := beq_eq_false_iff_ne.mpr c6
      have c6b1 : ((wrap64 (a0_1)) != 0) = true := bne_iff_ne.mpr c6
      obtain rfl := Option.some.inj H
      go_enter Try.func95, Try.ntmps95
      go_wp2_with (first | ((with_reducible refine gate_dst (N := 2) rfl ?_); refine box_event ?hg (N := 2) ?hd (cs := #[.int .i16 a0_0, .int .i16 a0_1, .int .i16 a0_2, .int .i16 a0_3, .int .i16 a0_4, .int .i8 a0_5]) (t := 38) ?hr ?_; (case hd => rfl); (case hg => rfl); (case hr => first | (go_simp; done) | (go_simp; rfl)); intro gb240 hg w7 hbox hb; have n0_ := Aside0.mk (below_step (by repeat (first | (with_reducible first | exact HB.out | apply below_alloc | apply pw_below_drewN | apply below_drew1) | exact HB.out)) hb); have n1_ := Aside0.mk (hbox); have n2_ := Aside0.mk ((by rw [hg]; exact (below_size (by repeat (first | (with_reducible first | exact HB.out | apply below_alloc | apply pw_below_drewN | apply below_drew1) | exact HB.out))) : w.heap.size ≤ gb240)); have n3_ := Aside0.mk ((by rw [hg]; exact (below_size (by repeat (first | (with_reducible first | exact HB.out | apply below_alloc | apply pw_below_drewN | apply below_drew1) | exact HB.out))) : w.heap.size ≤ gb240)); clear HB; have HB := n0_; have BK240 := n1_; have GW240 := n2_; have GE240 := n3_; clear n0_ n1_ n2_ n3_; clear hb hbox hg; have hcz8_0 : w7.cell? ⟨gb240, 0, none⟩ = some (.int .i16 a0_0) := (blk_cell BK240.out 0).trans rfl; have hcz8_1 : w7.cell? ⟨gb240, 1, none⟩ = some (.int .i16 a0_1) := (blk_cell BK240.out 1).trans rfl; have hcz8_2 : w7.cell? ⟨gb240, 2, none⟩ = some (.int .i16 a0_2) := (blk_cell BK240.out 2).trans rfl; have hcz8_3 : w7.cell? ⟨gb240, 3, none⟩ = some (.int .i16 a0_3) := (blk_cell BK240.out 3).trans rfl; have hcz8_4 : w7.cell? ⟨gb240, 4, none⟩ = some (.int .i16 a0_4) := (blk_cell BK240.out 4).trans rfl; have hcz8_5 : w7.cell? ⟨gb240, 5, none⟩ = some (.int .i8 a0_5) := (blk_cell BK240.out 5).trans rfl; have hfz8_0 := blk_frozen BK240.out 0; have hfz8_1 := blk_frozen BK240.out 1; have hfz8_2 := blk_frozen BK240.out 2; have hfz8_3 := blk_frozen BK240.out 3; have hfz8_4 := blk_frozen BK240.out 4; have hfz8_5 := blk_frozen BK240.out 5))
      go_ret
      exact ⟨by first | rfl | (simp [errW_none, errW_some] <;> rfl) | (simp [*, errW_none, errW_some] <;> rfl), by repeat (first | (with_reducible first | exact HB.out | apply below_alloc | apply pw_below_drewN | apply below_drew1 | refine below_set ?_ GE240.out) | exact HB.out)⟩
end Go.Proofs.Ytmheflciiodhdaa.P
-- Written by wip/tools/mkprint.py of this repo, over the kit's print, out of the translation; Lean checks it.
namespace Go.Proofs.Ytmheflciiodhdaa.P
open Go.RowKit Go.Proofs.YtmheflciiodhdaaW.PrintWords Go.Proofs.YtmheflciiodhdaaW.PrintLast Go.Proofs.YtmheflciiodhdaaW.PrintMore
attribute [local go_sem] max2_int min2_int max_two min_two max_three min_three max_four min_four   -- for this text's walks alone
set_option linter.unusedVariables false
set_option linter.unusedSimpArgs false
/-! ### impl_rowOn: given -/
def untilO (x : S38) (d : Int) : Option Int := impl_Walker_until.f x.f0 x.f1 x.f2 x.f3 x.f4 x.f5 d
def untilT (x : S38) (d : Int) : Int := (untilO x d).getD 0
set_option maxHeartbeats 1000000 in
theorem rowOn_cnt (w : World) (g : Nat) (d : Int) (xs : List S38) (hx : ∀ x ∈ xs, (untilO x d).isSome = true) (hc : w.cell? ⟨g, 0, none⟩ = some (.int .i64 d)) : CntW 111 #[.pointer (some ⟨g, 0, none⟩)] (fun x => untilT x d) xs w := by
  refine ⟨enters_of Try.func111 (by kernel_rfl) rfl, fun W hW x hm => ?_⟩
  show Calls Try.prog 111 #[encW x, .pointer (some ⟨g, 0, none⟩)] W _
  obtain ⟨v, hv⟩ := Option.isSome_iff_exists.mp (hx x hm)
  have HV := Aside0.mk hv
  have hT : untilT x d = v := by unfold untilT; rw [hv]; rfl
  rw [hT]
  have hlt := World.block_lt_of_cell? w _ hc
  have hc' := pw_cell_below hW hc
  have hg' : g < W.heap.size := by have := hW.size; simp at hlt; omega
  have hu := Try.underlying38
  clear hc hlt hW hv hx hm hT
  unfold encW
  go_enter Try.func111, Try.ntmps111
  go_wp2_with (go_at_call 95; refine (impl_Walker_until.calls _ _ _ _ _ _ _ v _ HV.out).mono ?_; rintro e w' ⟨rfl, hb⟩; have HB := Aside0.mk hb; clear hb)
  go_ret
  exact ⟨rfl, below_step (below_alloc (Below.refl _ _) _) HB.out⟩
def impl_rowOn.f (k : Nat) (l0 : List Int) (l1 : List S38) (a2 : Int) : Option (List Int) :=
  if l1.all (fun x => (untilO x a2).isSome) = true then walkedF k l0 l1 (fun x => untilT x a2) else none
theorem impl_rowOn.mono : ∀ a0 a1 a2 k, LeO (impl_rowOn.f k a0 a1 a2) (impl_rowOn.f (k + 1) a0 a1 a2) := fun _ _ _ k => LeO.ite (walkedF_mono k) (LeO.none _)
set_option maxHeartbeats 1000000 in
theorem impl_rowOn.calls (k : Nat) (A0 : Option Addr) (c0 : Nat) (l0 : List Int) (A1 : Option Addr) (c1 : Nat) (l1 : List S38) (a2 : Int) (r : List Int) (w : World) (hr0 : Kd.C (Kd.int .u8) w A0 l0.length l0) (hc0 : l0.length ≤ c0) (hr1 : Kd.C k38 w A1 l1.length l1) (hc1 : l1.length ≤ c1) (h : impl_rowOn.f k l0 l1 a2 = some r) :
    Calls Try.prog 71 #[.slice A0 l0.length c0, .slice A1 l1.length c1, .int .i64 a2] w fun e w' => ∃ v0_ : Value, e = .returned (v0_) ∧ Kd.R (Kd.int .u8) 5 w' w.heap.size (fun _ => True) v0_ r ∧ Below w.heap.size w w' := by
  have hx : l1.all (fun x => (untilO x a2).isSome) = true := by
    cases hh : l1.all (fun x => (untilO x a2).isSome) with
    | true => rfl
    | false => unfold impl_rowOn.f at h; rw [hh] at h; simp at h
  have hf : walkedF k l0 l1 (fun x => untilT x a2) = some r := by unfold impl_rowOn.f at h; rw [if_pos hx] at h; exact h
  have HF := Aside0.mk hf
  have HX := Aside0.mk (List.all_eq_true.mp hx)
  have HR0 := Aside0.mk hr0
  have HR1 := Aside0.mk hr1
  clear h hf hx hr0 hr1
  go_enter Try.func71, Try.ntmps71
  go_wp2_with (go_at_call 70; refine (walked_calls k A0 c0 l0 A1 c1 l1 _ _ _ r _ (Kd.C_alloc HR0.out _) (Kd.C_alloc HR1.out _) (rowOn_cnt _ w.heap.size a2 l1 HX.out (by simp)) HF.out).mono ?_; rintro e w' ⟨v, rfl, ho, hb⟩; (have HO := Aside0.mk ho); (have HB := Aside0.mk hb); clear ho hb)
  go_ret
  exact ⟨_, rfl, Kd.R_lower HO.out (by simp), below_step (below_alloc (Below.refl _ _) _) HB.out⟩
end Go.Proofs.Ytmheflciiodhdaa.P
-- Written by wip/tools/mkprint.py of this repo, over the kit's print, out of the translation; Lean checks it.
namespace Go.Proofs.Ytmheflciiodhdaa.P
open Go.RowKit Go.Proofs.YtmheflciiodhdaaW.PrintWords Go.Proofs.YtmheflciiodhdaaW.PrintLast Go.Proofs.YtmheflciiodhdaaW.PrintMore
attribute [local go_sem] max2_int min2_int max_two min_two max_three min_three max_four min_four   -- for this text's walks alone
set_option linter.unusedVariables false
set_option linter.unusedSimpArgs false
/-! ### impl_Row_uint8_87: given -/
set_option maxHeartbeats 4000000 in
theorem indexFunc_u8 (fid : Nat) (lb : Array Value) (p : Int → Bool) (A : Option Addr) (c : Nat) (xs : List Int) (w : World)
    (hx : Kd.C (Kd.int .u8) w A xs.length xs) (hp : PredI Try.prog fid lb .u8 p w) :
    Calls Try.prog 113 #[.slice A xs.length c, .func (.func fid) #[] lb] w fun e w' => e = .returned (.int .i64 (idx p xs 0)) ∧ Drawn0 w w' := by
  have HR := Aside0.mk hx
  have hn := Kd.C_max hx
  have HP := Aside0.mk hp
  have eg := hp.eg
  clear hx hp
  go_enter Try.func113, Try.ntmps113
  go_wp2
  go_loopw [5, 8] (fun v5 v8 w' => ∃ k : Nat, k ≤ xs.length ∧ v8 = .int .i64 k ∧ Aside0 (idx p (xs.drop k) k = idx p xs 0) ∧ Drawn0 w w') (fun _ v8 _ => xs.length - (intOf v8).toNat)
  case atStart => exact ⟨0, Nat.zero_le _, rfl, ⟨by simp⟩, by repeat (first | exact Drawn0.refl _ | apply Drawn0.step)⟩
  case round =>
    obtain ⟨k, hk, rfl, hi, ⟨nd, rfl⟩⟩ := hrel
    by_cases hlt : k < xs.length
    · obtain ⟨ad, rfl, hcell⟩ := at_nat HR.out k hlt
      have HPK := Aside0.mk (HP.out.at_ (w.drewN nd) (Drawn0.below ⟨⟨nd, rfl⟩⟩) (rd xs (k : Int)))
      have HI : Aside0 ((if p (rd xs (k : Int)) then (k : Int) else idx p (xs.drop (k + 1)) (k + 1)) = idx p xs 0) := ⟨by have := hi.out; rw [drop_rd hlt] at this; exact this⟩
      clear hi
      cases hpv : p (rd xs (k : Int)) with
      | true =>
        rw [hpv] at HPK HI
        clear hpv
        go_wp2_with (go_at_fn fid; refine HPK.out.mono ?_; rintro e w' ⟨rfl, ⟨nd2, rfl⟩⟩)
        go_ret
        exact ⟨by rw [← HI.out]; rfl, by repeat (first | exact Drawn0.refl _ | apply Drawn0.step)⟩
      | false =>
        rw [hpv] at HPK HI
        clear hpv
        go_wp2_with (go_at_fn fid; refine HPK.out.mono ?_; rintro e w' ⟨rfl, ⟨nd2, rfl⟩⟩)
        go_roundw
        case rel => exact ⟨k + 1, by omega, by go_num, ⟨by have := HI.out; simpa using this⟩, by repeat (first | exact Drawn0.refl _ | apply Drawn0.step)⟩
        case measure => simp [intOf]; omega
    · have hke : k = xs.length := by omega
      go_wp2
      go_ret
      exact ⟨by have := hi.out; subst hke; rw [List.drop_length] at this; rw [← this]; rfl, by repeat (first | exact Drawn0.refl _ | apply Drawn0.step)⟩
set_option maxHeartbeats 1000000 in
theorem containsFunc_u8 (fid : Nat) (lb : Array Value) (p : Int → Bool) (A : Option Addr) (c : Nat) (xs : List Int) (w : World)
    (hx : Kd.C (Kd.int .u8) w A xs.length xs) (hp : PredI Try.prog fid lb .u8 p w) :
    Calls Try.prog 87 #[.slice A xs.length c, .func (.func fid) #[] lb] w fun e w' => e = .returned (.bool (xs.any p)) ∧ Drawn0 w w' := by
  have HR := Aside0.mk hx
  have HP := Aside0.mk hp
  clear hx hp
  go_enter Try.func87, Try.ntmps87
  go_wp2_with (go_at_call 113; refine (indexFunc_u8 fid lb p A c xs _ HR.out HP.out).mono ?_; rintro e w' ⟨rfl, ⟨nd, rfl⟩⟩)
  go_ret
  exact ⟨by rw [← idx_ge p xs 0 (by omega)]; rfl, by repeat (first | exact Drawn0.refl _ | apply Drawn0.step)⟩
end Go.Proofs.Ytmheflciiodhdaa.P
-- Written by wip/tools/mkprint.py of this repo, over the kit's print, out of the translation; Lean checks it.
namespace Go.Proofs.Ytmheflciiodhdaa.P
open Go.RowKit Go.Proofs.YtmheflciiodhdaaW.PrintWords Go.Proofs.YtmheflciiodhdaaW.PrintLast Go.Proofs.YtmheflciiodhdaaW.PrintMore
attribute [local go_sem] max2_int min2_int max_two min_two max_three min_three max_four min_four   -- for this text's walks alone
set_option linter.unusedVariables false
set_option linter.unusedSimpArgs false
/-! ### impl_ValidRow: given -/
theorem ValidRow_pred (w : World) : PredI Try.prog 97 #[] .u8 (fun x => decide (7 < x)) w := by
  refine ⟨enters_of Try.func97 (by kernel_rfl) rfl, fun W hW x => ?_⟩
  show Calls Try.prog 97 #[.int .u8 x] W _
  go_enter Try.func97, Try.ntmps97
  go_wp2
  go_ret
  exact ⟨rfl, Drawn0.refl _⟩
def validRow (l : List Int) : Bool := inR 1 60 (l.length : Int) && !(l.any fun x => decide (7 < x))
def impl_ValidRow.f (l0 : List Int) : Option Bool := some (validRow l0)
set_option maxHeartbeats 1000000 in
theorem impl_ValidRow.calls (A0 : Option Addr) (c0 : Nat) (l0 : List Int) (r : Bool) (w : World) (hr0 : Kd.C (Kd.int .u8) w A0 l0.length l0) (hc0 : l0.length ≤ c0) (h : impl_ValidRow.f l0 = some r) :
    Calls Try.prog 50 #[.slice A0 l0.length c0] w fun e w' => e = .returned (.bool r) ∧ Drawn0 w w' := by
  obtain rfl := Option.some.inj h
  have HR := Aside0.mk hr0
  clear hr0 h
  unfold validRow
  cases h1 : inR 1 60 (l0.length : Int) with
  | true =>
    have H1 := Aside0.mk (show impl_within.f (l0.length : Int) 1 60 = some true by rw [within_inR, h1])
    clear h1
    go_enter Try.func50, Try.ntmps50
    go_wp2_with (first | (go_at_call 69; refine (impl_within.calls _ _ _ _ _ H1.out).mono ?_; rintro e w' ⟨rfl, ⟨nd, rfl⟩⟩) | (go_at_call 87; refine (containsFunc_u8 _ _ _ A0 c0 l0 _ (Kd.C_drewN HR.out _) (ValidRow_pred _)).mono ?_; rintro e w' ⟨rfl, ⟨nd2, rfl⟩⟩))
    go_ret
    exact ⟨by simp, by repeat (first | exact Drawn0.refl _ | apply Drawn0.step)⟩
  | false =>
    have H1 := Aside0.mk (show impl_within.f (l0.length : Int) 1 60 = some false by rw [within_inR, h1])
    clear h1
    go_enter Try.func50, Try.ntmps50
    go_wp2_with (first | (go_at_call 69; refine (impl_within.calls _ _ _ _ _ H1.out).mono ?_; rintro e w' ⟨rfl, ⟨nd, rfl⟩⟩))
    go_ret
    exact ⟨by simp, by repeat (first | exact Drawn0.refl _ | apply Drawn0.step)⟩
end Go.Proofs.Ytmheflciiodhdaa.P
-- Written by wip/tools/mkprint.py of this repo, over the kit's print, out of the translation; Lean checks it.
namespace Go.Proofs.Ytmheflciiodhdaa.P
open Go.RowKit Go.Proofs.YtmheflciiodhdaaW.PrintWords Go.Proofs.YtmheflciiodhdaaW.PrintLast Go.Proofs.YtmheflciiodhdaaW.PrintMore
attribute [local go_sem] max2_int min2_int max_two min_two max_three min_three max_four min_four   -- for this text's walks alone
set_option linter.unusedVariables false
set_option linter.unusedSimpArgs false
/-! ### impl_Walker_between: function 81 -/
def impl_Walker_between.f (a0_0 : Int) (a0_1 : Int) (a0_2 : Int) (a0_3 : Int) (a0_4 : Int) (a0_5 : Int) (a1 : Int) (a2 : Int) : Option (Int) := (impl_Walker_until.f a0_0 a0_1 a0_2 a0_3 a0_4 a0_5 a2).bind fun t242 => ((impl_Walker_until.f a0_0 a0_1 a0_2 a0_3 a0_4 a0_5 (wrap64 (a1 - 1))).bind fun t243 => (some (wrap64 (t242 - t243))))
def impl_Walker_between.T1 : Bool × List (List Nat × List Nat) := (true, [([], []), ([], []), ([0, 1], [0, 1]), ([], []), ([], []), ([4], [4]), ([3, 5, 2], [3, 5]), ([2, 6], [2, 6]), ([7, 6, 0, 1, 2, 3, 4, 5, 6, 7], [7])])
def impl_Walker_between.B1 : List Nat := [0, 0, 3, 0, 0, 16, 63, 127, 255]
theorem impl_Walker_between.tab1 : rtab .any (opsOf Try.f81 1) = impl_Walker_between.T1 := by kernel_rfl
theorem impl_Walker_between.bits1 : waitsOk impl_Walker_between.T1.2 impl_Walker_between.B1 = true := by kernel_rfl
set_option maxHeartbeats 8000000 in
set_option maxRecDepth 100000 in
theorem impl_Walker_between.calls (a0_0 : Int) (a0_1 : Int) (a0_2 : Int) (a0_3 : Int) (a0_4 : Int) (a0_5 : Int) (a1 : Int) (a2 : Int) (r : Int) (w : World) (h : impl_Walker_between.f a0_0 a0_1 a0_2 a0_3 a0_4 a0_5 a1 a2 = some r) :
    Calls Try.prog 81 #[.agg #[.int .i16 a0_0, .int .i16 a0_1, .int .i16 a0_2, .int .i16 a0_3, .int .i16 a0_4, .int .i8 a0_5], .int .i64 a1, .int .i64 a2] w fun e w' => e = .returned (.int .i64 r) ∧ Below w.heap.size w w' := by
  have hu38 := Try.underlying38
  have HB := Aside0.mk (Below.refl w.heap.size w)
  have H : ((impl_Walker_until.f a0_0 a0_1 a0_2 a0_3 a0_4 a0_5 a2).bind fun t242 => ((impl_Walker_until.f a0_0 a0_1 a0_2 a0_3 a0_4 a0_5 (wrap64 (a1 - 1))).bind fun t243 => (some (wrap64 (t242 - t243))))) = some r := h
  clear h
  replace H := Option.bind_eq_some_iff.mp H
  obtain ⟨t242, A40, H⟩ := H
  replace H : ((impl_Walker_until.f a0_0 a0_1 a0_2 a0_3 a0_4 a0_5 (wrap64 (a1 - 1))).bind fun t243 => (some (wrap64 (t242 - t243)))) = some r := H
  have A4 := Aside0.mk A40
  clear A40
  replace H := Option.bind_eq_some_iff.mp H
  obtain ⟨t243, A50, H⟩ := H
  replace H : (some (wrap64 (t242 - t243))) = some r := H
  have A5 := Aside0.mk A50
  clear A50
  obtain rfl := Option.some.inj H
  go_enter Try.func81, Try.ntmps81
  try go_wp2_with (first | ((with_reducible refine gate_dst (N := 3) rfl ?_); refine box_event ?hg (N := 3) ?hd (cs := #[.int .i16 a0_0, .int .i16 a0_1, .int .i16 a0_2, .int .i16 a0_3, .int .i16 a0_4, .int .i8 a0_5]) (t := 38) ?hr ?_; (case hd => rfl); (case hg => rfl); (case hr => first | (go_simp; done) | (go_simp; rfl)); intro gb241 hg w6 hbox hb; have n0_ := Aside0.mk (below_step (by repeat (first | (with_reducible first | exact HB.out | apply below_alloc | apply pw_below_drewN | apply below_drew1) | exact HB.out)) hb); have n1_ := Aside0.mk (hbox); have n2_ := Aside0.mk ((by rw [hg]; exact (below_size (by repeat (first | (with_reducible first | exact HB.out | apply below_alloc | apply pw_below_drewN | apply below_drew1) | exact HB.out))) : w.heap.size ≤ gb241)); have n3_ := Aside0.mk ((by rw [hg]; exact (below_size (by repeat (first | (with_reducible first | exact HB.out | apply below_alloc | apply pw_below_drewN | apply below_drew1) | exact HB.out))) : w.heap.size ≤ gb241)); clear HB; have HB := n0_; have BK241 := n1_; have GW241 := n2_; have GE241 := n3_; clear n0_ n1_ n2_ n3_; clear hb hbox hg))
  have n0_ := Aside0.mk (blk_drew BK241.out)
  have n1_ := Aside0.mk (below_drew1 HB.out)
  clear BK241
  clear HB
  have BK241 := n0_
  have HB := n1_
  clear n0_ n1_
  refine start_ (n := 9) (S := fun w' => w'.cell? ⟨gb241, 0, none⟩ = some (.int .i16 a0_0) ∧ w'.cell? ⟨gb241, 1, none⟩ = some (.int .i16 a0_1) ∧ w'.cell? ⟨gb241, 2, none⟩ = some (.int .i16 a0_2) ∧ w'.cell? ⟨gb241, 3, none⟩ = some (.int .i16 a0_3) ∧ w'.cell? ⟨gb241, 4, none⟩ = some (.int .i16 a0_4) ∧ w'.cell? ⟨gb241, 5, none⟩ = some (.int .i8 a0_5)) (ds := []) #[false, false, false, false, false, false, false, false, false] (by kernel_rfl) rfl rfl ⟨(blk_cell BK241.out 0).trans rfl, (blk_cell BK241.out 1).trans rfl, (blk_cell BK241.out 2).trans rfl, (blk_cell BK241.out 3).trans rfl, (blk_cell BK241.out 4).trans rfl, (blk_cell BK241.out 5).trans rfl⟩ (fun hHeld => ?_); refine with_tabW impl_Walker_between.tab1 impl_Walker_between.bits1 (fun HT_ HW_ => ?_)
  generalize w6.drew = w7 at BK241 HB hHeld ⊢
  refine pure_ (i := 1) (N := some 8) (v := ?_) (a' := ?_) #[false, true, false, false, false, false, false, false, false] rfl rfl (any_of HT_.out (by kernel_rfl)) (fun _ _ _ h => h) (Or.inl ⟨by rfl, ?_⟩) ?_ ?_
  rotate_left
  · intro w'
    go_simp
    with_reducible rfl
  rotate_left
  · simp only [Act.put, List.setIfInBounds_toArray, List.set_cons_zero, List.set_cons_succ, i64_w, i32_w]
    rfl
  refine pure_ (i := 4) (N := some 11) (v := ?_) (a' := ?_) #[false, true, false, false, true, false, false, false, false] rfl rfl (any_of HT_.out (by kernel_rfl)) (fun _ _ _ h => h) (Or.inl ⟨by rfl, ?_⟩) ?_ ?_
  rotate_left
  · intro w'
    go_simp
    with_reducible rfl
  rotate_left
  · simp only [Act.put, List.setIfInBounds_toArray, List.set_cons_zero, List.set_cons_succ, i64_w, i32_w]
    rfl
  refine pure_ (i := 5) (N := some 12) (v := ?_) (a' := ?_) #[false, true, false, false, true, true, false, false, false] rfl rfl (any_of HT_.out (by kernel_rfl)) (fun _ _ _ h => h) (Or.inl ⟨by rfl, ?_⟩) ?_ ?_
  rotate_left
  · intro w'
    go_simp
    with_reducible rfl
  rotate_left
  · simp only [Act.put, List.setIfInBounds_toArray, List.set_cons_zero, List.set_cons_succ, i64_w, i32_w]
    rfl
  refine take_ (i := 0) (N := some 7) (v := ?_) (a' := ?_) #[true, true, false, false, true, true, false, false, false] rfl rfl (take_ofW HT_.out HW_.out (by kernel_rfl)) (fun _ _ _ h => h) (Or.inl ⟨by rfl, ?_⟩) hHeld ?_ ?_
  rotate_left
  · rintro w' ⟨s0, s1, s2, s3, s4, s5⟩
    go_simp
    with_reducible rfl
  rotate_left
  · simp only [Act.put, List.setIfInBounds_toArray, List.set_cons_zero, List.set_cons_succ, i64_w, i32_w]
    rfl
  refine take_ (i := 3) (N := some 10) (v := ?_) (a' := ?_) #[true, true, false, true, true, true, false, false, false] rfl rfl (take_ofW HT_.out HW_.out (by kernel_rfl)) (fun _ _ _ h => h) (Or.inl ⟨by rfl, ?_⟩) hHeld ?_ ?_
  rotate_left
  · rintro w' ⟨s0, s1, s2, s3, s4, s5⟩
    go_simp
    with_reducible rfl
  rotate_left
  · simp only [Act.put, List.setIfInBounds_toArray, List.set_cons_zero, List.set_cons_succ, i64_w, i32_w]
    rfl
  refine one_ (i := 2) (N := some 9) #[true, true, true, true, true, true, false, false, false] rfl rfl (one_of HT_.out (by kernel_rfl)) (by decide) (fun K hK => ?_)
  refine goes_ Try.func95 (by kernel_rfl) rfl #[.agg #[.int .i16 a0_0, .int .i16 a0_1, .int .i16 a0_2, .int .i16 a0_3, .int .i16 a0_4, .int .i8 a0_5], .int .i64 a2] (by rfl) rfl rfl (by (try simp only [List.map_toArray, List.map_cons, List.map_nil]); first | done | rfl | (simp only [List.length_drop, List.length_take]; rfl)) ?_
  with_reducible refine (impl_Walker_until.calls a0_0 a0_1 a0_2 a0_3 a0_4 a0_5 a2 t242 _ A4.out).mono ?_
  rintro e w8 ⟨rfl, hb⟩
  refine ⟨_, rfl, ?_⟩
  have n0_ := Aside0.mk (blk_below (g := gb241) (o := .cells #[.int .i16 a0_0, .int .i16 a0_1, .int .i16 a0_2, .int .i16 a0_3, .int .i16 a0_4, .int .i8 a0_5] 38 (0, 0)) (by (with_reducible repeat (first | refine blk_drewN ?_ _ | refine blk_drew ?_ | refine blk_alloc ?_ _)); exact BK241.out) hb)
  have n1_ := Aside0.mk (below_step (by repeat (first | (with_reducible first | exact HB.out | apply below_alloc | apply pw_below_drewN | apply below_drew1 | refine below_set ?_ GE241.out) | exact HB.out)) hb)
  clear BK241
  clear HB
  have BK241 := n0_
  have HB := n1_
  clear n0_ n1_
  (try clear hb)
  (try clear hb2)
  (try clear hk)
  (try clear hi)
  refine hK.out _ _ ⟨(blk_cell BK241.out 0).trans rfl, (blk_cell BK241.out 1).trans rfl, (blk_cell BK241.out 2).trans rfl, (blk_cell BK241.out 3).trans rfl, (blk_cell BK241.out 4).trans rfl, (blk_cell BK241.out 5).trans rfl⟩ (fun hHeld => ?_)
  clear hK K
  refine norm_ (a' := ?_) ?_ ?_
  rotate_left
  · show Act.put _ (some 9) _ = _
    simp only [Act.put, List.setIfInBounds_toArray, List.set_cons_zero, List.set_cons_succ, i64_w, i32_w]
    rfl
  refine one_ (i := 6) (N := some 13) #[true, true, true, true, true, true, true, false, false] rfl rfl (one_of HT_.out (by kernel_rfl)) (by decide) (fun K hK => ?_)
  refine goes_ Try.func95 (by kernel_rfl) rfl #[.agg #[.int .i16 a0_0, .int .i16 a0_1, .int .i16 a0_2, .int .i16 a0_3, .int .i16 a0_4, .int .i8 a0_5], .int .i64 (wrap64 (a1 - 1))] (by rfl) rfl rfl (by (try simp only [List.map_toArray, List.map_cons, List.map_nil]); first | done | rfl | (simp only [List.length_drop, List.length_take]; rfl)) ?_
  with_reducible refine (impl_Walker_until.calls a0_0 a0_1 a0_2 a0_3 a0_4 a0_5 (wrap64 (a1 - 1)) t243 _ A5.out).mono ?_
  rintro e w9 ⟨rfl, hb⟩
  refine ⟨_, rfl, ?_⟩
  have n0_ := Aside0.mk (blk_below (g := gb241) (o := .cells #[.int .i16 a0_0, .int .i16 a0_1, .int .i16 a0_2, .int .i16 a0_3, .int .i16 a0_4, .int .i8 a0_5] 38 (0, 0)) (by (with_reducible repeat (first | refine blk_drewN ?_ _ | refine blk_drew ?_ | refine blk_alloc ?_ _)); exact BK241.out) hb)
  have n1_ := Aside0.mk (below_step (by repeat (first | (with_reducible first | exact HB.out | apply below_alloc | apply pw_below_drewN | apply below_drew1 | refine below_set ?_ GE241.out) | exact HB.out)) hb)
  clear BK241
  clear HB
  have BK241 := n0_
  have HB := n1_
  clear n0_ n1_
  (try clear hb)
  (try clear hb2)
  (try clear hk)
  (try clear hi)
  refine hK.out _ _ ⟨(blk_cell BK241.out 0).trans rfl, (blk_cell BK241.out 1).trans rfl, (blk_cell BK241.out 2).trans rfl, (blk_cell BK241.out 3).trans rfl, (blk_cell BK241.out 4).trans rfl, (blk_cell BK241.out 5).trans rfl⟩ (fun hHeld => ?_)
  clear hK K
  refine norm_ (a' := ?_) ?_ ?_
  rotate_left
  · show Act.put _ (some 13) _ = _
    simp only [Act.put, List.setIfInBounds_toArray, List.set_cons_zero, List.set_cons_succ, i64_w, i32_w]
    rfl
  refine pure_ (i := 7) (N := some 14) (v := ?_) (a' := ?_) #[true, true, true, true, true, true, true, true, false] rfl rfl (any_of HT_.out (by kernel_rfl)) (fun _ _ _ h => h) (Or.inl ⟨by rfl, ?_⟩) ?_ ?_
  rotate_left
  · intro w'
    go_simp
    with_reducible rfl
  rotate_left
  · simp only [Act.put, List.setIfInBounds_toArray, List.set_cons_zero, List.set_cons_succ, i64_w, i32_w]
    rfl
  refine pure_ (i := 8) (N := some 6) (v := ?_) (a' := ?_) #[true, true, true, true, true, true, true, true, true] rfl rfl (any_of HT_.out (by kernel_rfl)) (fun _ _ _ h => h) (Or.inl ⟨by rfl, ?_⟩) ?_ ?_
  rotate_left
  · intro w'
    go_simp
    with_reducible rfl
  rotate_left
  · simp only [Act.put, List.setIfInBounds_toArray, List.set_cons_zero, List.set_cons_succ, i64_w, i32_w]
    rfl
  refine done_ (done_of HT_.out (by kernel_rfl)) ?_
  try go_wp2
  go_ret
  exact ⟨by first | rfl | (simp [errW_none, errW_some] <;> rfl) | (simp [*, errW_none, errW_some] <;> rfl), by repeat (first | (with_reducible first | exact HB.out | apply below_alloc | apply pw_below_drewN | apply below_drew1 | refine below_set ?_ GE241.out) | exact HB.out)⟩
end Go.Proofs.Ytmheflciiodhdaa.P
-- Written by wip/tools/mkprint.py of this repo, over the kit's print, out of the translation; Lean checks it.
namespace Go.Proofs.Ytmheflciiodhdaa.P
open Go.RowKit Go.Proofs.YtmheflciiodhdaaW.PrintWords Go.Proofs.YtmheflciiodhdaaW.PrintLast Go.Proofs.YtmheflciiodhdaaW.PrintMore
attribute [local go_sem] max2_int min2_int max_two min_two max_three min_three max_four min_four   -- for this text's walks alone
set_option linter.unusedVariables false
set_option linter.unusedSimpArgs false
/-! ### impl_rowOk: function 68 -/
def impl_rowOk.f (l0 : List Int) (l1 : List (S38)) : Option (Bool) := (impl_ValidRow.f l0).bind fun t231 => (if t231 = true then ((impl_ValidWalkers.f (l0.length : Int) l1).bind fun t232 => (some t232)) else (some false))
set_option maxHeartbeats 8000000 in
set_option maxRecDepth 100000 in
theorem impl_rowOk.calls (A0 : Option Addr) (c0 : Nat) (l0 : List Int) (A1 : Option Addr) (c1 : Nat) (l1 : List (S38)) (r : Bool) (w : World) (hr0 : Kd.C (Kd.int .u8) w A0 l0.length l0) (hc0 : l0.length ≤ c0) (hr1 : Kd.C k38 w A1 l1.length l1) (hc1 : l1.length ≤ c1) (h : impl_rowOk.f l0 l1 = some r) :
    Calls Try.prog 68 #[.slice A0 l0.length c0, .slice A1 l1.length c1] w fun e w' => e = .returned (.bool r) ∧ Below w.heap.size w w' := by
  have HR0 := Aside0.mk hr0
  have HC0 := Aside0.mk hc0
  clear hr0 hc0
  have HR1 := Aside0.mk hr1
  have HC1 := Aside0.mk hc1
  clear hr1 hc1
  have HB := Aside0.mk (Below.refl w.heap.size w)
  have H : ((impl_ValidRow.f l0).bind fun t231 => (if t231 = true then ((impl_ValidWalkers.f (l0.length : Int) l1).bind fun t232 => (some t232)) else (some false))) = some r := h
  clear h
  replace H := Option.bind_eq_some_iff.mp H
  obtain ⟨t231, A30, H⟩ := H
  replace H : (if t231 = true then ((impl_ValidWalkers.f (l0.length : Int) l1).bind fun t232 => (some t232)) else (some false)) = some r := H
  have A3 := Aside0.mk A30
  clear A30
  by_cases c4 : t231 = true
  · subst c4
    have H1 : ((impl_ValidWalkers.f (l0.length : Int) l1).bind fun t232 => (some t232)) = some r := by rw [if_pos rfl] at H; exact H
    clear H
    have H := H1
    clear H1
    replace H := Option.bind_eq_some_iff.mp H
    obtain ⟨t232, A50, H⟩ := H
    replace H : (some t232) = some r := H
    have A5 := Aside0.mk A50
    clear A50
    obtain rfl := Option.some.inj H
    go_enter Try.func68, Try.ntmps68
    go_wp2_with (first | ((with_reducible refine gate_callee (f := 50) rfl ?_); refine goesL_ (some 6) rfl rfl Try.func50 (by kernel_rfl) rfl #[.slice A0 l0.length c0] rfl (by (try simp only [List.map_toArray, List.map_cons, List.map_nil]); first | done | rfl | (simp only [List.length_drop, List.length_take]; rfl)) ?_; (with_reducible refine (impl_ValidRow.calls _ _ l0 true _ ?side1 ?side2 A3.out).mono ?_); (case side1 => repeat (first | exact HR0.out | (with_reducible refine Kd.C_alloc ?_ _) | (with_reducible refine Kd.C_drewN ?_ _) | (with_reducible refine Kd.C_drew ?_))); (case side2 => exact HC0.out); rintro e w' ⟨rfl, ⟨nd, rfl⟩⟩; refine ⟨_, rfl, ?_⟩) | (go_at_call 51; (with_reducible refine (impl_ValidWalkers.calls (l0.length : Int) _ _ l1 t232 _ ?side1 ?side2 A5.out).mono ?_); (case side1 => repeat (first | exact HR1.out | (with_reducible refine Kd.C_alloc ?_ _) | (with_reducible refine Kd.C_drewN ?_ _) | (with_reducible refine Kd.C_drew ?_))); (case side2 => exact HC1.out); rintro e w6 ⟨rfl, hb⟩; have n0_ := Aside0.mk (below_step (by repeat (first | (with_reducible first | exact HB.out | apply below_alloc | apply pw_below_drewN | apply below_drew1) | exact HB.out)) hb); clear HB; have HB := n0_; clear n0_; (try clear hb); (try clear hb2); (try clear hk); (try clear hi)))
    go_ret
    exact ⟨by first | rfl | (simp [errW_none, errW_some] <;> rfl) | (simp [*, errW_none, errW_some] <;> rfl), by repeat (first | (with_reducible first | exact HB.out | apply below_alloc | apply pw_below_drewN | apply below_drew1) | exact HB.out)⟩
  · replace c4 := Bool.eq_false_iff.mpr c4
    subst c4
    have H1 : (some false) = some r := by rw [if_neg (show ¬ (false = true) by decide)] at H; exact H
    clear H
    have H := H1
    clear H1
    obtain rfl := Option.some.inj H
    go_enter Try.func68, Try.ntmps68
    go_wp2_with (first | ((with_reducible refine gate_callee (f := 50) rfl ?_); refine goesL_ (some 6) rfl rfl Try.func50 (by kernel_rfl) rfl #[.slice A0 l0.length c0] rfl (by (try simp only [List.map_toArray, List.map_cons, List.map_nil]); first | done | rfl | (simp only [List.length_drop, List.length_take]; rfl)) ?_; (with_reducible refine (impl_ValidRow.calls _ _ l0 false _ ?side1 ?side2 A3.out).mono ?_); (case side1 => repeat (first | exact HR0.out | (with_reducible refine Kd.C_alloc ?_ _) | (with_reducible refine Kd.C_drewN ?_ _) | (with_reducible refine Kd.C_drew ?_))); (case side2 => exact HC0.out); rintro e w' ⟨rfl, ⟨nd, rfl⟩⟩; refine ⟨_, rfl, ?_⟩))
    go_ret
    exact ⟨by first | rfl | (simp [errW_none, errW_some] <;> rfl) | (simp [*, errW_none, errW_some] <;> rfl), by repeat (first | (with_reducible first | exact HB.out | apply below_alloc | apply pw_below_drewN | apply below_drew1) | exact HB.out)⟩
end Go.Proofs.Ytmheflciiodhdaa.P
-- Written by wip/tools/mkprint.py of this repo, over the kit's print, out of the translation; Lean checks it.
namespace Go.Proofs.Ytmheflciiodhdaa.P
open Go.RowKit Go.Proofs.YtmheflciiodhdaaW.PrintWords Go.Proofs.YtmheflciiodhdaaW.PrintLast Go.Proofs.YtmheflciiodhdaaW.PrintMore
attribute [local go_sem] max2_int min2_int max_two min_two max_three min_three max_four min_four   -- for this text's walks alone
set_option linter.unusedVariables false
set_option linter.unusedSimpArgs false
/-! ### impl_DayOf: given -/
def betweenO (x : S38) (a b : Int) : Option Int := impl_Walker_between.f x.f0 x.f1 x.f2 x.f3 x.f4 x.f5 a b
def betweenT (x : S38) (a b : Int) : Int := (betweenO x a b).getD 0
def codeB (a b : Bool) : Int := if a = true then (if b = true then 0 else 2) else 1
theorem codeOf_codeB (a b : Bool) : impl_codeOf.f a b = some (codeB a b) := by cases a <;> cases b <;> rfl
def rowOkB (l0 : List Int) (l1 : List S38) : Bool := validRow l0 && validWalkers (l0.length : Int) l1
theorem rowOk_rowOkB (l0 : List Int) (l1 : List S38) : impl_rowOk.f l0 l1 = some (rowOkB l0 l1) := by
  unfold impl_rowOk.f rowOkB impl_ValidRow.f impl_ValidWalkers.f
  cases h : validRow l0 <;> simp
theorem isDay_all (l : List Int) : impl_isDay.f l = some (l.all (inR 0 10000)) := by
  unfold impl_isDay.f impl_allWithin.f
  rfl
theorem isDay1 (x : Int) (g : Nat) (W : World) (h : W.cell? ⟨g, 0, none⟩ = some (.int .i64 x)) :
    Calls Try.prog 79 #[.slice (some ⟨g, 0, none⟩) 1 1] W fun e w' => e = .returned (.bool (inR 0 10000 x)) ∧ Below W.heap.size W w' :=
  impl_isDay.calls (some ⟨g, 0, none⟩) 1 [x] (inR 0 10000 x) W (C_one h) (Nat.le_refl _) (by rw [isDay_all]; simp)
set_option maxHeartbeats 1000000 in
theorem DayOf_cnt (w : World) (g : Nat) (d : Int) (xs : List S38) (hx : ∀ x ∈ xs, (betweenO x d d).isSome = true) (hc : w.cell? ⟨g, 0, none⟩ = some (.int .i64 d)) : CntW 80 #[.pointer (some ⟨g, 0, none⟩)] (fun x => betweenT x d d) xs w := by
  refine ⟨enters_of Try.func80 (by kernel_rfl) rfl, fun W hW x hm => ?_⟩
  show Calls Try.prog 80 #[encW x, .pointer (some ⟨g, 0, none⟩)] W _
  obtain ⟨v, hv⟩ := Option.isSome_iff_exists.mp (hx x hm)
  have HV := Aside0.mk hv
  have hT : betweenT x d d = v := by unfold betweenT; rw [hv]; rfl
  rw [hT]
  have hlt := World.block_lt_of_cell? w _ hc
  have hc' := pw_cell_below hW hc
  have hg' : g < W.heap.size := by have := hW.size; simp at hlt; omega
  have hu := Try.underlying38
  clear hc hlt hW hv hx hm hT
  unfold encW
  go_enter Try.func80, Try.ntmps80
  go_wp2_with (go_at_call 81; refine (impl_Walker_between.calls _ _ _ _ _ _ _ _ v _ HV.out).mono ?_; rintro e w' ⟨rfl, hb⟩; have HB := Aside0.mk hb; clear hb)
  go_ret
  exact ⟨rfl, below_step (below_alloc (Below.refl _ _) _) HB.out⟩
def impl_DayOf.f (k : Nat) (l0 : List Int) (l1 : List S38) (a2 : Int) : Option (List Int × Int) :=
  if codeB (rowOkB l0 l1) (inR 0 10000 a2) = 0 then (if l1.all (fun x => (betweenO x a2 a2).isSome) = true then (walkedF k l0 l1 (fun x => betweenT x a2 a2)).bind fun r => some (r, 0) else none) else some ([], codeB (rowOkB l0 l1) (inR 0 10000 a2))
theorem impl_DayOf.mono : ∀ a0 a1 a2 k, LeO (impl_DayOf.f k a0 a1 a2) (impl_DayOf.f (k + 1) a0 a1 a2) := fun _ _ _ k => LeO.ite (LeO.ite (LeO.bind (walkedF_mono k) (fun _ => LeO.refl _)) (LeO.none _)) (LeO.refl _)
set_option maxHeartbeats 4000000 in
set_option maxRecDepth 100000 in
theorem impl_DayOf.calls (k : Nat) (A0 : Option Addr) (c0 : Nat) (l0 : List Int) (A1 : Option Addr) (c1 : Nat) (l1 : List S38) (a2 : Int) (r1 : List Int) (r2 : Int) (w : World) (hr0 : Kd.C (Kd.int .u8) w A0 l0.length l0) (hc0 : l0.length ≤ c0) (hr1 : Kd.C k38 w A1 l1.length l1) (hc1 : l1.length ≤ c1) (h : impl_DayOf.f k l0 l1 a2 = some (r1, r2)) :
    Calls Try.prog 19 #[.slice A0 l0.length c0, .slice A1 l1.length c1, .int .i64 a2] w fun e w' => ∃ v0_ : Value, e = .returned (.tuple #[v0_, .int .i64 r2]) ∧ Kd.R (Kd.int .u8) 5 w' w.heap.size (fun _ => True) v0_ r1 ∧ Below w.heap.size w w' := by
  have HR0 := Aside0.mk hr0
  have HR1 := Aside0.mk hr1
  have HC0 := Aside0.mk hc0
  have HC1 := Aside0.mk hc1
  clear hr0 hr1 hc0 hc1
  by_cases hcode : codeB (rowOkB l0 l1) (inR 0 10000 a2) = 0
  · unfold impl_DayOf.f at h
    rw [if_pos hcode] at h
    have hx : l1.all (fun x => (betweenO x a2 a2).isSome) = true := by
      cases hh : l1.all (fun x => (betweenO x a2 a2).isSome) with
      | true => rfl
      | false => rw [hh] at h; simp at h
    rw [if_pos hx] at h
    obtain ⟨r, hf, h2⟩ := Option.bind_eq_some_iff.mp h
    simp only [Option.some.injEq, Prod.mk.injEq] at h2
    obtain ⟨rfl, rfl⟩ := h2
    have HF := Aside0.mk hf
    have HX := Aside0.mk (List.all_eq_true.mp hx)
    have HCD := Aside0.mk (show impl_codeOf.f (rowOkB l0 l1) (inR 0 10000 a2) = some 0 by rw [codeOf_codeB, hcode])
    clear h hf hx hcode
    go_enter Try.func19, Try.ntmps19
    go_wp2
    have hbx0 : (w.alloc (.cells #[.int .i64 a2] 2)).cell? ⟨w.heap.size, 0, none⟩ = some (.int .i64 a2) := by simp
    have HR0' := Aside0.mk (Kd.C_alloc HR0.out (.cells #[.int .i64 a2] 2))
    have HR1' := Aside0.mk (Kd.C_alloc HR1.out (.cells #[.int .i64 a2] 2))
    have HBW := Aside0.mk (below_alloc (Below.refl w.heap.size w) (.cells #[.int .i64 a2] 2))
    have HSZ := Aside0.mk (show w.heap.size ≤ (w.alloc (.cells #[.int .i64 a2] 2)).heap.size by simp)
    generalize w.alloc (.cells #[.int .i64 a2] 2) = w1 at hbx0 HR0' HR1' HBW HSZ ⊢
    have HB := Aside0.mk (Below.refl w1.heap.size w1)
    have HBX := Aside0.mk hbx0
    go_region_with (first
      | (go_at_call 68; refine (impl_rowOk.calls A0 c0 l0 A1 c1 l1 _ _ (Kd.C_below HR0'.out (by repeat (first | exact HB.out | apply below_alloc | apply pw_below_drewN | apply below_drew1))) HC0.out (Kd.C_below HR1'.out (by repeat (first | exact HB.out | apply below_alloc | apply pw_below_drewN | apply below_drew1))) HC1.out (rowOk_rowOkB l0 l1)).mono ?_; rintro e w2 ⟨rfl, hb⟩; (have hbx := (pw_cell_below (below_step (by repeat (first | exact HB.out | apply below_alloc | apply pw_below_drewN | apply below_drew1)) hb) HBX.out)); (have n0_ := Aside0.mk (below_step (by repeat (first | exact HB.out | apply below_alloc | apply pw_below_drewN | apply below_drew1)) hb)); clear HB; have HB := n0_; clear n0_; obtain ⟨hcA, hfA⟩ := bcell hb; (have hzA := hb.size); (try simp at hzA); clear hb)
      | (go_at_call 79; refine (isDay1 a2 _ _ (by first | (simp; done) | (rw [hcA _ _ (by simp)]; simp))).mono ?_; rintro e w3 ⟨rfl, hb⟩; (have n0_ := Aside0.mk (below_step (by repeat (first | exact HB.out | apply below_alloc | apply pw_below_drewN | apply below_drew1)) hb)); clear HB; have HB := n0_; clear n0_; (have hzB := hb.size); (try simp at hzB); clear hb)
      | (go_at_call 67; refine (impl_codeOf.calls _ _ _ _ HCD.out).mono ?_; rintro e w4 ⟨rfl, ⟨nd, rfl⟩⟩))
    all_goals
      go_wp2_with (go_at_call 70; refine (walked_calls k A0 c0 l0 A1 c1 l1 _ _ _ r _ (Kd.C_below HR0'.out (by repeat (first | exact HB.out | apply below_alloc | apply pw_below_drewN | apply below_drew1))) (Kd.C_below HR1'.out (by repeat (first | exact HB.out | apply below_alloc | apply pw_below_drewN | apply below_drew1))) (DayOf_cnt _ w.heap.size a2 l1 HX.out (pw_cell_below (by repeat (first | exact HB.out | apply below_alloc | apply pw_below_drewN | apply below_drew1)) HBX.out)) HF.out).mono ?_; rintro e w5 ⟨v, rfl, ho, hb⟩; (have HO := Aside0.mk (Kd.R_lower ho (by exact (below_size (w := w1) (by repeat (first | exact HB.out | apply below_alloc | apply pw_below_drewN | apply below_drew1)))))); (have n0_ := Aside0.mk (below_step (by repeat (first | exact HB.out | apply below_alloc | apply pw_below_drewN | apply below_drew1)) hb)); clear HB; have HB := n0_; clear n0_ ho hb)
      go_ret2
      exact ⟨_, rfl, Kd.R_lower HO.out HSZ.out, below_step HBW.out HB.out⟩
  · unfold impl_DayOf.f at h
    rw [if_neg hcode] at h
    simp only [Option.some.injEq, Prod.mk.injEq] at h
    obtain ⟨rfl, rfl⟩ := h
    have HCD := Aside0.mk (codeOf_codeB (rowOkB l0 l1) (inR 0 10000 a2))
    have hne : (codeB (rowOkB l0 l1) (inR 0 10000 a2) != 0) = true := bne_iff_ne.mpr hcode
    have hne2 : (codeB (rowOkB l0 l1) (inR 0 10000 a2) == 0) = false := beq_eq_false_iff_ne.mpr hcode
    clear hcode
    go_enter Try.func19, Try.ntmps19
    go_wp2
    have hbx0 : (w.alloc (.cells #[.int .i64 a2] 2)).cell? ⟨w.heap.size, 0, none⟩ = some (.int .i64 a2) := by simp
    have HR0' := Aside0.mk (Kd.C_alloc HR0.out (.cells #[.int .i64 a2] 2))
    have HR1' := Aside0.mk (Kd.C_alloc HR1.out (.cells #[.int .i64 a2] 2))
    have HBW := Aside0.mk (below_alloc (Below.refl w.heap.size w) (.cells #[.int .i64 a2] 2))
    have HSZ := Aside0.mk (show w.heap.size ≤ (w.alloc (.cells #[.int .i64 a2] 2)).heap.size by simp)
    generalize w.alloc (.cells #[.int .i64 a2] 2) = w1 at hbx0 HR0' HR1' HBW HSZ ⊢
    have HB := Aside0.mk (Below.refl w1.heap.size w1)
    have HBX := Aside0.mk hbx0
    go_region_with (first
      | (go_at_call 68; refine (impl_rowOk.calls A0 c0 l0 A1 c1 l1 _ _ (Kd.C_below HR0'.out (by repeat (first | exact HB.out | apply below_alloc | apply pw_below_drewN | apply below_drew1))) HC0.out (Kd.C_below HR1'.out (by repeat (first | exact HB.out | apply below_alloc | apply pw_below_drewN | apply below_drew1))) HC1.out (rowOk_rowOkB l0 l1)).mono ?_; rintro e w2 ⟨rfl, hb⟩; (have hbx := (pw_cell_below (below_step (by repeat (first | exact HB.out | apply below_alloc | apply pw_below_drewN | apply below_drew1)) hb) HBX.out)); (have n0_ := Aside0.mk (below_step (by repeat (first | exact HB.out | apply below_alloc | apply pw_below_drewN | apply below_drew1)) hb)); clear HB; have HB := n0_; clear n0_; obtain ⟨hcA, hfA⟩ := bcell hb; (have hzA := hb.size); (try simp at hzA); clear hb)
      | (go_at_call 79; refine (isDay1 a2 _ _ (by first | (simp; done) | (rw [hcA _ _ (by simp)]; simp))).mono ?_; rintro e w3 ⟨rfl, hb⟩; (have n0_ := Aside0.mk (below_step (by repeat (first | exact HB.out | apply below_alloc | apply pw_below_drewN | apply below_drew1)) hb)); clear HB; have HB := n0_; clear n0_; (have hzB := hb.size); (try simp at hzB); clear hb)
      | (go_at_call 67; refine (impl_codeOf.calls _ _ _ _ HCD.out).mono ?_; rintro e w4 ⟨rfl, ⟨nd, rfl⟩⟩))
    all_goals
      go_wp2
      go_ret2
      exact ⟨_, rfl, Kd.R_nil _ _ _ _ _, below_step HBW.out (by repeat (first | exact HB.out | apply below_alloc | apply pw_below_drewN | apply below_drew1))⟩
end Go.Proofs.Ytmheflciiodhdaa.P
