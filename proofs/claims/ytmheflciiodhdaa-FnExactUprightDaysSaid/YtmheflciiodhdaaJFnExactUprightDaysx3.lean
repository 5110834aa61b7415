/- The program's UprightDays tells the same days and code as the reference's, leaves its arguments as they were, and its answer is its own, for all arguments.
   Conditions: none beyond the given statement's own. -/
import Derived.Test.YtmheflciiodhdaaF0
import Derived.Test.YtmheflciiodhdaaJFnExactUprightDaysx2
import Derived.Test.YtmheflciiodhdaaJFnExactUprightDaysx1
import Derived.Test.YtmheflciiodhdaaRows
import Derived.WalkKit
import Derived.ProofKit
import Derived.OpenShut
import Derived.ShutString
import Derived.ChangeOld
import Derived.Below
import Derived.SizedLaws
-- Written by wip/tools/mkprint.py of this repo, over the kit's print, out of the translation; Lean checks it.
namespace Go.Proofs.Ytmheflciiodhdaa.P
open Go.RowKit Go.Proofs.YtmheflciiodhdaaW.PrintWords Go.Proofs.YtmheflciiodhdaaW.PrintLast Go.Proofs.YtmheflciiodhdaaW.PrintMore
attribute [local go_sem] max2_int min2_int max_two min_two max_three min_three max_four min_four   -- for this text's walks alone
set_option linter.unusedVariables false
set_option linter.unusedSimpArgs false
/-! ### spec_UprightDays: function 22 -/
def spec_UprightDays.l0 : Nat → List (S38) → Int → Int → List Int → List Int → Int → Option (List Int × Int)
  | 0, _, _, _, _, _, _ => none
  | k + 1, x1, x2, x3, x10, x12, x13 => if x13 ≤ x3 then (if x13 > x2 then ((spec_l05Behind.f k x12 x1 x13).bind fun t306 => ((spec_l05Upright.f k t306).bind fun t309 => (if t309 = true then (if x10.length < 17592186044416 then (spec_UprightDays.l0 k x1 x2 x3 (x10 ++ [x13]) t306 (wrap64 (x13 + 1))) else (none)) else (spec_UprightDays.l0 k x1 x2 x3 x10 t306 (wrap64 (x13 + 1)))))) else ((spec_l05Upright.f k x12).bind fun t313 => (if t313 = true then (if x10.length < 17592186044416 then (spec_UprightDays.l0 k x1 x2 x3 (x10 ++ [x13]) x12 (wrap64 (x13 + 1))) else (none)) else (spec_UprightDays.l0 k x1 x2 x3 x10 x12 (wrap64 (x13 + 1)))))) else (some (x10, 0))
def spec_UprightDays.f (k : Nat) (l0 : List Int) (l1 : List (S38)) (a2 : Int) (a3 : Int) : Option (List Int × Int) := (some (([] : List Int) : List Int)).bind fun y297 => ((spec_l05From.f a2 a3).bind fun t300 => ((spec_l05Row.f k l0 l1 t300).bind fun t301 => ((spec_l05Span.f t301 a2 a3).bind fun t302 => (if t302 = 0 then ((spec_l05Whole.f k l0 l1 a2).bind fun t303 => (spec_UprightDays.l0 k l1 a2 a3 y297 t303 a2)) else (some (y297, t302))))))
theorem spec_UprightDays.mono_l : ∀ k, (∀ y0 y1 y2 y3 y4 y5, LeO (spec_UprightDays.l0 k y0 y1 y2 y3 y4 y5) (spec_UprightDays.l0 (k + 1) y0 y1 y2 y3 y4 y5))
  | 0 => fun _ _ _ _ _ _ r h => by simp [spec_UprightDays.l0] at h
  | k + 1 => by
    have ih0 := spec_UprightDays.mono_l k
    · intro y0 y1 y2 y3 y4 y5
      unfold spec_UprightDays.l0
      repeat' first
      | (with_reducible exact ih0 _ _ _ _ _ _)
      | (with_reducible exact spec_l05Behind.mono _ _ _ _)
      | (with_reducible exact spec_l05Row.mono _ _ _ _)
      | (with_reducible exact spec_l05Upright.mono _ _)
      | (with_reducible exact spec_l05Whole.mono _ _ _ _)
      | (with_reducible exact LeO.refl _)
      | (with_reducible exact LeO.none _)
      | (with_reducible refine LeO.ite ?_ ?_)
      | (with_reducible refine LeO.bind ?_ (fun _ => ?_))
      | exact ih0 _ _ _ _ _ _
      | exact spec_l05Behind.mono _ _ _ _
      | exact spec_l05Row.mono _ _ _ _
      | exact spec_l05Upright.mono _ _
      | exact spec_l05Whole.mono _ _ _ _
      | exact LeO.none _
      | refine LeO.ite ?_ ?_
      | refine LeO.bind ?_ (fun _ => ?_)
theorem spec_UprightDays.mono : ∀ a0 a1 a2 a3 k, LeO (spec_UprightDays.f k a0 a1 a2 a3) (spec_UprightDays.f (k + 1) a0 a1 a2 a3) := by
  intro a0 a1 a2 a3 k
  have ih0 := spec_UprightDays.mono_l k
  unfold spec_UprightDays.f
  repeat' first
      | (with_reducible exact ih0 _ _ _ _ _ _)
      | (with_reducible exact spec_l05Behind.mono _ _ _ _)
      | (with_reducible exact spec_l05Row.mono _ _ _ _)
      | (with_reducible exact spec_l05Upright.mono _ _)
      | (with_reducible exact spec_l05Whole.mono _ _ _ _)
      | (with_reducible exact LeO.refl _)
      | (with_reducible exact LeO.none _)
      | (with_reducible refine LeO.ite ?_ ?_)
      | (with_reducible refine LeO.bind ?_ (fun _ => ?_))
      | exact ih0 _ _ _ _ _ _
      | exact spec_l05Behind.mono _ _ _ _
      | exact spec_l05Row.mono _ _ _ _
      | exact spec_l05Upright.mono _ _
      | exact spec_l05Whole.mono _ _ _ _
      | exact LeO.none _
      | refine LeO.ite ?_ ?_
      | refine LeO.bind ?_ (fun _ => ?_)
set_option maxHeartbeats 8000000 in
set_option maxRecDepth 100000 in
theorem spec_UprightDays.calls (k : Nat) (A0 : Option Addr) (c0 : Nat) (l0 : List Int) (A1 : Option Addr) (c1 : Nat) (l1 : List (S38)) (a2 : Int) (a3 : Int) (r1 : List Int) (r2 : Int) (w : World) (hr0 : Kd.C (Kd.int .u8) w A0 l0.length l0) (hc0 : l0.length ≤ c0) (hr1 : Kd.C k38 w A1 l1.length l1) (hc1 : l1.length ≤ c1) (h : spec_UprightDays.f k l0 l1 a2 a3 = some (r1, r2)) :
    Calls Try.prog 22 #[.slice A0 l0.length c0, .slice A1 l1.length c1, .int .i64 a2, .int .i64 a3] w fun e w' => ∃ v0_ : Value, e = .returned (.tuple #[v0_, .int .i64 r2]) ∧ Kd.R (Kd.int .i64) 2 w' w.heap.size (fun _ => True) v0_ r1 ∧ Below w.heap.size w w' := by
  have HR0 := Aside0.mk hr0
  have HC0 := Aside0.mk hc0
  clear hr0 hc0
  have HR1 := Aside0.mk hr1
  have HC1 := Aside0.mk hc1
  clear hr1 hc1
  have HB := Aside0.mk (Below.refl w.heap.size w)
  have H : ((some (([] : List Int) : List Int)).bind fun y297 => ((spec_l05From.f a2 a3).bind fun t300 => ((spec_l05Row.f k l0 l1 t300).bind fun t301 => ((spec_l05Span.f t301 a2 a3).bind fun t302 => (if t302 = 0 then ((spec_l05Whole.f k l0 l1 a2).bind fun t303 => (spec_UprightDays.l0 k l1 a2 a3 y297 t303 a2)) else (some (y297, t302))))))) = some (r1, r2) := h
  clear h
  obtain ⟨y297, hy297⟩ : ∃ y_ : List Int, y_ = (([] : List Int)) := ⟨_, rfl⟩
  replace H : ((spec_l05From.f a2 a3).bind fun t300 => ((spec_l05Row.f k l0 l1 t300).bind fun t301 => ((spec_l05Span.f t301 a2 a3).bind fun t302 => (if t302 = 0 then ((spec_l05Whole.f k l0 l1 a2).bind fun t303 => (spec_UprightDays.l0 k l1 a2 a3 y297 t303 a2)) else (some (y297, t302)))))) = some (r1, r2) := by first | (rw [hy297]; with_reducible exact H) | (have H2_ := (Option.bind_some _ _).symm.trans H; rw [hy297]; with_reducible exact H2_) | (have H2_ := (Option.bind_some _ _).symm.trans H; with_reducible exact H2_) | with_reducible exact H | (rw [hy297]; exact H) | exact H
  have Ny297 := Aside0.mk hy297
  clear hy297
  replace H := Option.bind_eq_some_iff.mp H
  obtain ⟨t300, A50, H⟩ := H
  replace H : ((spec_l05Row.f k l0 l1 t300).bind fun t301 => ((spec_l05Span.f t301 a2 a3).bind fun t302 => (if t302 = 0 then ((spec_l05Whole.f k l0 l1 a2).bind fun t303 => (spec_UprightDays.l0 k l1 a2 a3 y297 t303 a2)) else (some (y297, t302))))) = some (r1, r2) := H
  have A5 := Aside0.mk A50
  clear A50
  replace H := Option.bind_eq_some_iff.mp H
  obtain ⟨t301, A60, H⟩ := H
  replace H : ((spec_l05Span.f t301 a2 a3).bind fun t302 => (if t302 = 0 then ((spec_l05Whole.f k l0 l1 a2).bind fun t303 => (spec_UprightDays.l0 k l1 a2 a3 y297 t303 a2)) else (some (y297, t302)))) = some (r1, r2) := H
  have A6 := Aside0.mk A60
  clear A60
  replace H := Option.bind_eq_some_iff.mp H
  obtain ⟨t302, A70, H⟩ := H
  replace H : (if t302 = 0 then ((spec_l05Whole.f k l0 l1 a2).bind fun t303 => (spec_UprightDays.l0 k l1 a2 a3 y297 t303 a2)) else (some (y297, t302))) = some (r1, r2) := H
  have A7 := Aside0.mk A70
  clear A70
  by_cases c8 : t302 = 0
  · rw [if_pos c8] at H
    have c8b0 : (t302 == 0) = true := beq_iff_eq.mpr c8
    have c8b1 : (t302 != 0) = false := bne_eq_false_iff_eq.mpr c8
    clear c8
    replace H := Option.bind_eq_some_iff.mp H
    obtain ⟨t303, A90, H⟩ := H
    replace H : (spec_UprightDays.l0 k l1 a2 a3 y297 t303 a2) = some (r1, r2) := H
    have A9 := Aside0.mk A90
    clear A90
    have H' := Aside0.mk H
    clear H
    go_enter Try.func22, Try.ntmps22
    go_wp2_with (first | ((with_reducible refine gate_dst (N := 14) rfl ?_); refine Kd.R_lit (Kd.int .i64) _ 2 ?hg (N := 14) ?hd (xs := ([] : List Int)) (inner := []) (ok := fun _ => True) (okp := fun _ => True) ?hr ?hp (fun _ hk => hk) trivial (Below.refl _ _) (Nat.le_refl _) (by simp) ?_; (case hd => rfl); (case hg => rfl); (case hr => first | (go_simp; done) | (go_simp; rfl)); (case hp => exact (Reps.none _ _)); intro v298 w10 ho11 hb hg_ hnew_; clear hg_ hnew_; (first | rw [← Ny297.out] at ho11 | (simp only [Int.reduceToNat] at ho11; rw [← Ny297.out] at ho11)); have n0_ := Aside0.mk (Kd.R_lower ho11 (below_size (by repeat (first | (with_reducible first | exact HB.out | apply below_alloc | apply pw_below_drewN | apply below_drew1) | exact HB.out)))); have n1_ := Aside0.mk (below_step (by repeat (first | (with_reducible first | exact HB.out | apply below_alloc | apply pw_below_drewN | apply below_drew1) | exact HB.out)) hb); clear HB; have HO299 := n0_; have HB := n1_; clear n0_ n1_; clear hb ho11) | ((with_reducible refine gate_callee (f := 83) rfl ?_); refine goesL_ (some 19) rfl rfl Try.func83 (by kernel_rfl) rfl #[.int .i64 a2, .int .i64 a3] rfl (by (try simp only [List.map_toArray, List.map_cons, List.map_nil]); first | done | rfl | (simp only [List.length_drop, List.length_take]; rfl)) ?_; (with_reducible refine (spec_l05From.calls a2 a3 t300 _ A5.out).mono ?_); rintro e w' ⟨rfl, ⟨nd, rfl⟩⟩; refine ⟨_, rfl, ?_⟩) | ((with_reducible refine gate_callee (f := 64) rfl ?_); refine goesL_ (some 20) rfl rfl Try.func64 (by kernel_rfl) rfl #[.slice A0 l0.length c0, .slice A1 l1.length c1, .bool t300] rfl (by (try simp only [List.map_toArray, List.map_cons, List.map_nil]); first | done | rfl | (simp only [List.length_drop, List.length_take]; rfl)) ?_; (with_reducible refine (spec_l05Row.calls k _ _ l0 _ _ l1 t300 t301 _ ?side1 ?side2 ?side3 ?side4 A6.out).mono ?_); (case side1 => repeat (first | exact (Kd.C_below HR0.out (by repeat (first | (with_reducible first | exact HB.out | apply below_alloc | apply pw_below_drewN | apply below_drew1) | exact HB.out))) | (with_reducible refine Kd.C_alloc ?_ _) | (with_reducible refine Kd.C_drewN ?_ _) | (with_reducible refine Kd.C_drew ?_))); (case side2 => exact HC0.out); (case side3 => repeat (first | exact (Kd.C_below HR1.out (by repeat (first | (with_reducible first | exact HB.out | apply below_alloc | apply pw_below_drewN | apply below_drew1) | exact HB.out))) | (with_reducible refine Kd.C_alloc ?_ _) | (with_reducible refine Kd.C_drewN ?_ _) | (with_reducible refine Kd.C_drew ?_))); (case side4 => exact HC1.out); rintro e w12 ⟨rfl, hb⟩; refine ⟨_, rfl, ?_⟩; have n0_ := Aside0.mk (Kd.R_below (by (with_reducible repeat (first | apply Kd.R_alloc | apply Kd.R_drewN | apply Kd.R_drew)); exact HO299.out) hb); have n1_ := Aside0.mk (below_step (by repeat (first | (with_reducible first | exact HB.out | apply below_alloc | apply pw_below_drewN | apply below_drew1) | exact HB.out)) hb); clear HO299; clear HB; have HO299 := n0_; have HB := n1_; clear n0_ n1_; (try clear hb); (try clear hb2); (try clear hk); (try clear hi)) | ((with_reducible refine gate_callee (f := 82) rfl ?_); refine goesL_ (some 23) rfl rfl Try.func82 (by kernel_rfl) rfl #[.int .i64 t301, .int .i64 a2, .int .i64 a3] rfl (by (try simp only [List.map_toArray, List.map_cons, List.map_nil]); first | done | rfl | (simp only [List.length_drop, List.length_take]; rfl)) ?_; (with_reducible refine (spec_l05Span.calls t301 a2 a3 t302 _ A7.out).mono ?_); rintro e w' ⟨rfl, ⟨nd, rfl⟩⟩; refine ⟨_, rfl, ?_⟩) | ((with_reducible refine gate_callee (f := 66) rfl ?_); refine goesL_ (some 31) rfl rfl Try.func66 (by kernel_rfl) rfl #[.slice A0 l0.length c0, .slice A1 l1.length c1, .int .i64 a2] rfl (by (try simp only [List.map_toArray, List.map_cons, List.map_nil]); first | done | rfl | (simp only [List.length_drop, List.length_take]; rfl)) ?_; (with_reducible refine (spec_l05Whole.calls k _ _ l0 _ _ l1 a2 t303 _ ?side1 ?side2 ?side3 ?side4 A9.out).mono ?_); (case side1 => repeat (first | exact (Kd.C_below HR0.out (by repeat (first | (with_reducible first | exact HB.out | apply below_alloc | apply pw_below_drewN | apply below_drew1) | exact HB.out))) | (with_reducible refine Kd.C_alloc ?_ _) | (with_reducible refine Kd.C_drewN ?_ _) | (with_reducible refine Kd.C_drew ?_))); (case side2 => exact HC0.out); (case side3 => repeat (first | exact (Kd.C_below HR1.out (by repeat (first | (with_reducible first | exact HB.out | apply below_alloc | apply pw_below_drewN | apply below_drew1) | exact HB.out))) | (with_reducible refine Kd.C_alloc ?_ _) | (with_reducible refine Kd.C_drewN ?_ _) | (with_reducible refine Kd.C_drew ?_))); (case side4 => exact HC1.out); rintro e w13 ⟨v304, rfl, ho0, hb⟩; refine ⟨_, rfl, ?_⟩; have n0_ := Aside0.mk (Kd.R_below (by (with_reducible repeat (first | apply Kd.R_alloc | apply Kd.R_drewN | apply Kd.R_drew)); exact HO299.out) hb); have n1_ := Aside0.mk (Kd.R_lower ho0 (below_size (by repeat (first | (with_reducible first | exact HB.out | apply below_alloc | apply pw_below_drewN | apply below_drew1) | exact HB.out)))); have n2_ := Aside0.mk (below_step (by repeat (first | (with_reducible first | exact HB.out | apply below_alloc | apply pw_below_drewN | apply below_drew1) | exact HB.out)) hb); clear HO299; clear HB; have HO299 := n0_; have HO305 := n1_; have HB := n2_; clear n0_ n1_ n2_; (try clear hb); (try clear hb2); (try clear hk); (try clear hi); (try clear ho0)))
    go_loopg [10, 12, 13] k (fun kq v10 v12 v13 w' => ∃ (x10_1 : List Int) (x12_1 : List Int) (x13_1 : Int), v13 = .int .i64 x13_1 ∧ Aside0 (spec_UprightDays.l0 kq l1 a2 a3 x10_1 x12_1 x13_1 = some (r1, r2)) ∧ Aside0 (kq ≤ k) ∧ Aside0 (Kd.R (Kd.int .i64) 2 w' w.heap.size (fun _ => True) v10 x10_1) ∧ Aside0 (Kd.R (Kd.int .u8) 5 w' w.heap.size (fun _ => True) v12 x12_1) ∧ Aside0 (Below w.heap.size w w'))
    case atStart => exact ⟨(y297), (t303), (a2), (by first | rfl | (simp; done) | (simp [*]; done)), H', ⟨Nat.le_refl _⟩, ⟨by (with_reducible repeat (first | apply Kd.R_alloc | apply Kd.R_drewN | apply Kd.R_drew)); exact HO299.out⟩, ⟨by (with_reducible repeat (first | apply Kd.R_alloc | apply Kd.R_drewN | apply Kd.R_drew)); exact HO305.out⟩, ⟨by repeat (first | (with_reducible first | exact HB.out | apply below_alloc | apply pw_below_drewN | apply below_drew1) | exact HB.out)⟩⟩
    case round =>
      clear H'
      try clear c1
      try clear c2
      try clear p2
      try clear c6
      try clear c8
      try clear c8b0
      try clear c8b1
      obtain ⟨x10_1, x12_1, x13_1, rfl, HA, HK1, HO_10, HO_12, HB⟩ := hrel
      cases gk with
      | zero => exact absurd HA.out (by simp [spec_UprightDays.l0])
      | succ k1 =>
        have H := HA.out
        clear HA
        simp only [spec_UprightDays.l0] at H
        by_cases c14 : x13_1 ≤ a3
        · rw [if_pos c14] at H
          have c14b0 : decide (x13_1 ≤ a3) = true := decide_eq_true c14
          clear c14
          by_cases c15 : x13_1 > a2
          · rw [if_pos c15] at H
            have c15b0 : decide (a2 < x13_1) = true := decide_eq_true c15
            clear c15
            replace H := Option.bind_eq_some_iff.mp H
            obtain ⟨t306, A160, H⟩ := H
            replace H : ((spec_l05Upright.f k1 t306).bind fun t309 => (if t309 = true then (if x10_1.length < 17592186044416 then (spec_UprightDays.l0 k1 l1 a2 a3 (x10_1 ++ [x13_1]) t306 (wrap64 (x13_1 + 1))) else (none)) else (spec_UprightDays.l0 k1 l1 a2 a3 x10_1 t306 (wrap64 (x13_1 + 1))))) = some (r1, r2) := H
            have A16 := Aside0.mk A160
            clear A160
            replace H := Option.bind_eq_some_iff.mp H
            obtain ⟨t309, A170, H⟩ := H
            replace H : (if t309 = true then (if x10_1.length < 17592186044416 then (spec_UprightDays.l0 k1 l1 a2 a3 (x10_1 ++ [x13_1]) t306 (wrap64 (x13_1 + 1))) else (none)) else (spec_UprightDays.l0 k1 l1 a2 a3 x10_1 t306 (wrap64 (x13_1 + 1)))) = some (r1, r2) := H
            have A17 := Aside0.mk A170
            clear A170
            by_cases c18 : t309 = true
            · subst c18
              have H1 : (if x10_1.length < 17592186044416 then (spec_UprightDays.l0 k1 l1 a2 a3 (x10_1 ++ [x13_1]) t306 (wrap64 (x13_1 + 1))) else (none)) = some (r1, r2) := by rw [if_pos rfl] at H; exact H
              clear H
              have H := H1
              clear H1
              by_cases c19 : x10_1.length < 17592186044416
              · rw [if_pos c19] at H
                have LMc19 := Aside0.mk c19
                clear c19
                obtain ⟨y310, hy310⟩ : ∃ y_ : List Int, y_ = (x10_1 ++ [x13_1]) := ⟨_, rfl⟩
                replace H : (spec_UprightDays.l0 k1 l1 a2 a3 y310 t306 (wrap64 (x13_1 + 1))) = some (r1, r2) := by first | (rw [hy310]; with_reducible exact H) | (have H2_ := (Option.bind_some _ _).symm.trans H; rw [hy310]; with_reducible exact H2_) | (have H2_ := (Option.bind_some _ _).symm.trans H; with_reducible exact H2_) | with_reducible exact H | (rw [hy310]; exact H) | exact H
                have Ny310 := Aside0.mk hy310
                clear hy310
                have H' := Aside0.mk H
                clear H
                obtain ⟨Ao20, co20, eo20⟩ := Kd.R_slice HO_12.out
                subst eo20
                go_wp2_with (first | ((with_reducible refine gate_callee (f := 78) rfl ?_); refine goesL_ (some 44) rfl rfl Try.func78 (by kernel_rfl) rfl #[.slice Ao20 x12_1.length co20, .slice A1 l1.length c1, .int .i64 x13_1] rfl (by (try simp only [List.map_toArray, List.map_cons, List.map_nil]); first | done | rfl | (simp only [List.length_drop, List.length_take]; rfl)) ?_; (with_reducible refine (spec_l05Behind.calls k1 _ _ x12_1 _ _ l1 x13_1 t306 _ ?side1 ?side2 ?side3 ?side4 A16.out).mono ?_); (case side1 => repeat (first | exact (Kd.R_reads' HO_12.out).2.2 | (with_reducible refine Kd.C_alloc ?_ _) | (with_reducible refine Kd.C_drewN ?_ _) | (with_reducible refine Kd.C_drew ?_))); (case side2 => exact (Kd.R_reads' HO_12.out).2.1); (case side3 => repeat (first | exact (Kd.C_below HR1.out HB.out) | (with_reducible refine Kd.C_alloc ?_ _) | (with_reducible refine Kd.C_drewN ?_ _) | (with_reducible refine Kd.C_drew ?_))); (case side4 => exact HC1.out); rintro e w21 ⟨v307, rfl, ho0, hb⟩; refine ⟨_, rfl, ?_⟩; have n0_ := Aside0.mk (Kd.R_below (by (with_reducible repeat (first | apply Kd.R_alloc | apply Kd.R_drewN | apply Kd.R_drew)); exact HO_10.out) hb); have n1_ := Aside0.mk (Kd.R_elder' (by (with_reducible repeat (first | apply Kd.R_alloc | apply Kd.R_drewN | apply Kd.R_drew)); exact HO_12.out) (Kd.R_base ho0) hb); have n2_ := Aside0.mk (Kd.R_lower (Kd.R_new' ho0 (Kd.R_lt (by (with_reducible repeat (first | apply Kd.R_alloc | apply Kd.R_drewN | apply Kd.R_drew)); exact HO_12.out))) (below_size (by repeat (first | (with_reducible first | exact HB.out | apply below_alloc | apply pw_below_drewN | apply below_drew1) | exact HB.out)))); have n3_ := Aside0.mk (below_step (by repeat (first | (with_reducible first | exact HB.out | apply below_alloc | apply pw_below_drewN | apply below_drew1) | exact HB.out)) hb); clear HO_10; clear HO_12; clear HB; have HO_10 := n0_; have HO_12 := n1_; have HO308 := n2_; have HB := n3_; clear n0_ n1_ n2_ n3_; (try clear hb); (try clear hb2); (try clear hk); (try clear hi); (try clear ho0); obtain ⟨Ao22, co22, eo22⟩ := Kd.R_slice HO308.out; subst eo22) | ((with_reducible refine gate_callee (f := 84) rfl ?_); refine goesL_ (some 46) rfl rfl Try.func84 (by kernel_rfl) rfl #[.slice Ao22 t306.length co22] rfl (by (try simp only [List.map_toArray, List.map_cons, List.map_nil]); first | done | rfl | (simp only [List.length_drop, List.length_take]; rfl)) ?_; (with_reducible refine (spec_l05Upright.calls k1 _ _ t306 true _ ?side1 ?side2 A17.out).mono ?_); (case side1 => repeat (first | exact (Kd.R_reads' HO308.out).2.2 | (with_reducible refine Kd.C_alloc ?_ _) | (with_reducible refine Kd.C_drewN ?_ _) | (with_reducible refine Kd.C_drew ?_))); (case side2 => exact (Kd.R_reads' HO308.out).2.1); rintro e w' ⟨rfl, ⟨nd, rfl⟩⟩; refine ⟨_, rfl, ?_⟩) | ((with_reducible refine gate_builtin (b := .append) (xs := #[.tmp 47, .tmp 49]) rfl ?_); at_builtin; refine Kd.R_append (Kd.int .i64) (w0 := w) w.heap.size rfl (.tmp 47) (.tmp 49) 47 2 (.int .i64 0) 8 rfl Try.underlying47 info2 rfl (by decide) (by omega) u10 x10_1 x13_1 [.int .i64 x13_1] (fun _ => True) (fun _ => False) rfl rfl ?aP (fun _ hk => hk.elim) ?aF ?aO ?aB ?aS ?aL ?_; (case aP => exact rfl); (case aB => exact (by repeat (first | (with_reducible first | exact HB.out | apply below_alloc | apply pw_below_drewN | apply below_drew1) | exact HB.out))); (case aF => exact (fun _ _ => trivial)); (case aO => exact (by (with_reducible repeat (first | apply Kd.R_alloc | apply Kd.R_drewN | apply Kd.R_drew)); exact HO_10.out)); (case aS => exact (below_size (by repeat (first | (with_reducible first | exact HB.out | apply below_alloc | apply pw_below_drewN | apply below_drew1) | exact HB.out)))); (case aL => have := LMc19.out; omega); intro v311 w23 ho hb hg hat; rw [← Ny310.out] at ho; have n0_ := Aside0.mk (Kd.R_over' (by (with_reducible repeat (first | apply Kd.R_alloc | apply Kd.R_drewN | apply Kd.R_drew)); exact HO_12.out) (Kd.R_typed (by (with_reducible repeat (first | apply Kd.R_alloc | apply Kd.R_drewN | apply Kd.R_drew)); exact HO_10.out)) (by decide) hg); have n1_ := Aside0.mk (Kd.R_over' (by (with_reducible repeat (first | apply Kd.R_alloc | apply Kd.R_drewN | apply Kd.R_drew)); exact HO308.out) (Kd.R_typed (by (with_reducible repeat (first | apply Kd.R_alloc | apply Kd.R_drewN | apply Kd.R_drew)); exact HO_10.out)) (by decide) hg); have n2_ := Aside0.mk (hb); have n3_ := Aside0.mk (ho); clear HO_12; clear HO308; clear HB; clear HO_10; have HO_12 := n0_; have HO308 := n1_; have HB := n2_; have HO312 := n3_; clear n0_ n1_ n2_ n3_; clear ho hb hg hat))
                go_roundg k1
                case measure => have := HK1.out; omega
                case rel => exact ⟨(y310), (t306), (wrap64 (x13_1 + 1)), (by first | rfl | (simp; done) | (simp [*]; done)), H', ⟨by have := HK1.out; omega⟩, ⟨by (with_reducible repeat (first | apply Kd.R_alloc | apply Kd.R_drewN | apply Kd.R_drew)); exact HO312.out⟩, ⟨by (with_reducible repeat (first | apply Kd.R_alloc | apply Kd.R_drewN | apply Kd.R_drew)); exact Kd.R_mono HO308.out (fun _ hk => trivial)⟩, ⟨by repeat (first | (with_reducible first | exact HB.out | apply below_alloc | apply pw_below_drewN | apply below_drew1) | exact HB.out)⟩⟩
              · rw [if_neg c19] at H
                exact absurd H (by simp)
            · replace c18 := Bool.eq_false_iff.mpr c18
              subst c18
              have H1 : (spec_UprightDays.l0 k1 l1 a2 a3 x10_1 t306 (wrap64 (x13_1 + 1))) = some (r1, r2) := by rw [if_neg (show ¬ (false = true) by decide)] at H; exact H
              clear H
              have H := H1
              clear H1
              have H' := Aside0.mk H
              clear H
              obtain ⟨Ao24, co24, eo24⟩ := Kd.R_slice HO_12.out
              subst eo24
              go_wp2_with (first | ((with_reducible refine gate_callee (f := 78) rfl ?_); refine goesL_ (some 44) rfl rfl Try.func78 (by kernel_rfl) rfl #[.slice Ao24 x12_1.length co24, .slice A1 l1.length c1, .int .i64 x13_1] rfl (by (try simp only [List.map_toArray, List.map_cons, List.map_nil]); first | done | rfl | (simp only [List.length_drop, List.length_take]; rfl)) ?_; (with_reducible refine (spec_l05Behind.calls k1 _ _ x12_1 _ _ l1 x13_1 t306 _ ?side1 ?side2 ?side3 ?side4 A16.out).mono ?_); (case side1 => repeat (first | exact (Kd.R_reads' HO_12.out).2.2 | (with_reducible refine Kd.C_alloc ?_ _) | (with_reducible refine Kd.C_drewN ?_ _) | (with_reducible refine Kd.C_drew ?_))); (case side2 => exact (Kd.R_reads' HO_12.out).2.1); (case side3 => repeat (first | exact (Kd.C_below HR1.out HB.out) | (with_reducible refine Kd.C_alloc ?_ _) | (with_reducible refine Kd.C_drewN ?_ _) | (with_reducible refine Kd.C_drew ?_))); (case side4 => exact HC1.out); rintro e w25 ⟨v307, rfl, ho0, hb⟩; refine ⟨_, rfl, ?_⟩; have n0_ := Aside0.mk (Kd.R_below (by (with_reducible repeat (first | apply Kd.R_alloc | apply Kd.R_drewN | apply Kd.R_drew)); exact HO_10.out) hb); have n1_ := Aside0.mk (Kd.R_elder' (by (with_reducible repeat (first | apply Kd.R_alloc | apply Kd.R_drewN | apply Kd.R_drew)); exact HO_12.out) (Kd.R_base ho0) hb); have n2_ := Aside0.mk (Kd.R_lower (Kd.R_new' ho0 (Kd.R_lt (by (with_reducible repeat (first | apply Kd.R_alloc | apply Kd.R_drewN | apply Kd.R_drew)); exact HO_12.out))) (below_size (by repeat (first | (with_reducible first | exact HB.out | apply below_alloc | apply pw_below_drewN | apply below_drew1) | exact HB.out)))); have n3_ := Aside0.mk (below_step (by repeat (first | (with_reducible first | exact HB.out | apply below_alloc | apply pw_below_drewN | apply below_drew1) | exact HB.out)) hb); clear HO_10; clear HO_12; clear HB; have HO_10 := n0_; have HO_12 := n1_; have HO308 := n2_; have HB := n3_; clear n0_ n1_ n2_ n3_; (try clear hb); (try clear hb2); (try clear hk); (try clear hi); (try clear ho0); obtain ⟨Ao26, co26, eo26⟩ := Kd.R_slice HO308.out; subst eo26) | ((with_reducible refine gate_callee (f := 84) rfl ?_); refine goesL_ (some 46) rfl rfl Try.func84 (by kernel_rfl) rfl #[.slice Ao26 t306.length co26] rfl (by (try simp only [List.map_toArray, List.map_cons, List.map_nil]); first | done | rfl | (simp only [List.length_drop, List.length_take]; rfl)) ?_; (with_reducible refine (spec_l05Upright.calls k1 _ _ t306 false _ ?side1 ?side2 A17.out).mono ?_); (case side1 => repeat (first | exact (Kd.R_reads' HO308.out).2.2 | (with_reducible refine Kd.C_alloc ?_ _) | (with_reducible refine Kd.C_drewN ?_ _) | (with_reducible refine Kd.C_drew ?_))); (case side2 => exact (Kd.R_reads' HO308.out).2.1); rintro e w' ⟨rfl, ⟨nd, rfl⟩⟩; refine ⟨_, rfl, ?_⟩))
              go_roundg k1
              case measure => have := HK1.out; omega
              case rel => exact ⟨(x10_1), (t306), (wrap64 (x13_1 + 1)), (by first | rfl | (simp; done) | (simp [*]; done)), H', ⟨by have := HK1.out; omega⟩, ⟨by (with_reducible repeat (first | apply Kd.R_alloc | apply Kd.R_drewN | apply Kd.R_drew)); exact HO_10.out⟩, ⟨by (with_reducible repeat (first | apply Kd.R_alloc | apply Kd.R_drewN | apply Kd.R_drew)); exact Kd.R_mono HO308.out (fun _ hk => trivial)⟩, ⟨by repeat (first | (with_reducible first | exact HB.out | apply below_alloc | apply pw_below_drewN | apply below_drew1) | exact HB.out)⟩⟩
          · rw [if_neg c15] at H
            have c15b0 : decide (a2 < x13_1) = false := decide_eq_false c15
            clear c15
            replace H := Option.bind_eq_some_iff.mp H
            obtain ⟨t313, A270, H⟩ := H
            replace H : (if t313 = true then (if x10_1.length < 17592186044416 then (spec_UprightDays.l0 k1 l1 a2 a3 (x10_1 ++ [x13_1]) x12_1 (wrap64 (x13_1 + 1))) else (none)) else (spec_UprightDays.l0 k1 l1 a2 a3 x10_1 x12_1 (wrap64 (x13_1 + 1)))) = some (r1, r2) := H
            have A27 := Aside0.mk A270
            clear A270
            by_cases c28 : t313 = true
            · subst c28
              have H1 : (if x10_1.length < 17592186044416 then (spec_UprightDays.l0 k1 l1 a2 a3 (x10_1 ++ [x13_1]) x12_1 (wrap64 (x13_1 + 1))) else (none)) = some (r1, r2) := by rw [if_pos rfl] at H; exact H
              clear H
              have H := H1
              clear H1
              by_cases c29 : x10_1.length < 17592186044416
              · rw [if_pos c29] at H
                have LMc29 := Aside0.mk c29
                clear c29
                obtain ⟨y314, hy314⟩ : ∃ y_ : List Int, y_ = (x10_1 ++ [x13_1]) := ⟨_, rfl⟩
                replace H : (spec_UprightDays.l0 k1 l1 a2 a3 y314 x12_1 (wrap64 (x13_1 + 1))) = some (r1, r2) := by first | (rw [hy314]; with_reducible exact H) | (have H2_ := (Option.bind_some _ _).symm.trans H; rw [hy314]; with_reducible exact H2_) | (have H2_ := (Option.bind_some _ _).symm.trans H; with_reducible exact H2_) | with_reducible exact H | (rw [hy314]; exact H) | exact H
                have Ny314 := Aside0.mk hy314
                clear hy314
                have H' := Aside0.mk H
                clear H
                obtain ⟨Ao30, co30, eo30⟩ := Kd.R_slice HO_12.out
                subst eo30
                go_wp2_with (first | ((with_reducible refine gate_callee (f := 84) rfl ?_); refine goesL_ (some 46) rfl rfl Try.func84 (by kernel_rfl) rfl #[.slice Ao30 x12_1.length co30] rfl (by (try simp only [List.map_toArray, List.map_cons, List.map_nil]); first | done | rfl | (simp only [List.length_drop, List.length_take]; rfl)) ?_; (with_reducible refine (spec_l05Upright.calls k1 _ _ x12_1 true _ ?side1 ?side2 A27.out).mono ?_); (case side1 => repeat (first | exact (Kd.R_reads' HO_12.out).2.2 | (with_reducible refine Kd.C_alloc ?_ _) | (with_reducible refine Kd.C_drewN ?_ _) | (with_reducible refine Kd.C_drew ?_))); (case side2 => exact (Kd.R_reads' HO_12.out).2.1); rintro e w' ⟨rfl, ⟨nd, rfl⟩⟩; refine ⟨_, rfl, ?_⟩) | ((with_reducible refine gate_builtin (b := .append) (xs := #[.tmp 47, .tmp 49]) rfl ?_); at_builtin; refine Kd.R_append (Kd.int .i64) (w0 := w) w.heap.size rfl (.tmp 47) (.tmp 49) 47 2 (.int .i64 0) 8 rfl Try.underlying47 info2 rfl (by decide) (by omega) u10 x10_1 x13_1 [.int .i64 x13_1] (fun _ => True) (fun _ => False) rfl rfl ?aP (fun _ hk => hk.elim) ?aF ?aO ?aB ?aS ?aL ?_; (case aP => exact rfl); (case aB => exact (by repeat (first | (with_reducible first | exact HB.out | apply below_alloc | apply pw_below_drewN | apply below_drew1) | exact HB.out))); (case aF => exact (fun _ _ => trivial)); (case aO => exact (by (with_reducible repeat (first | apply Kd.R_alloc | apply Kd.R_drewN | apply Kd.R_drew)); exact HO_10.out)); (case aS => exact (below_size (by repeat (first | (with_reducible first | exact HB.out | apply below_alloc | apply pw_below_drewN | apply below_drew1) | exact HB.out)))); (case aL => have := LMc29.out; omega); intro v315 w31 ho hb hg hat; rw [← Ny314.out] at ho; have n0_ := Aside0.mk (Kd.R_over' (by (with_reducible repeat (first | apply Kd.R_alloc | apply Kd.R_drewN | apply Kd.R_drew)); exact HO_12.out) (Kd.R_typed (by (with_reducible repeat (first | apply Kd.R_alloc | apply Kd.R_drewN | apply Kd.R_drew)); exact HO_10.out)) (by decide) hg); have n1_ := Aside0.mk (hb); have n2_ := Aside0.mk (ho); clear HO_12; clear HB; clear HO_10; have HO_12 := n0_; have HB := n1_; have HO316 := n2_; clear n0_ n1_ n2_; clear ho hb hg hat))
                go_roundg k1
                case measure => have := HK1.out; omega
                case rel => exact ⟨(y314), (x12_1), (wrap64 (x13_1 + 1)), (by first | rfl | (simp; done) | (simp [*]; done)), H', ⟨by have := HK1.out; omega⟩, ⟨by (with_reducible repeat (first | apply Kd.R_alloc | apply Kd.R_drewN | apply Kd.R_drew)); exact HO316.out⟩, ⟨by (with_reducible repeat (first | apply Kd.R_alloc | apply Kd.R_drewN | apply Kd.R_drew)); exact HO_12.out⟩, ⟨by repeat (first | (with_reducible first | exact HB.out | apply below_alloc | apply pw_below_drewN | apply below_drew1) | exact HB.out)⟩⟩
              · rw [if_neg c29] at H
                exact absurd H (by simp)
            · replace c28 := Bool.eq_false_iff.mpr c28
              subst c28
              have H1 : (spec_UprightDays.l0 k1 l1 a2 a3 x10_1 x12_1 (wrap64 (x13_1 + 1))) = some (r1, r2) := by rw [if_neg (show ¬ (false = true) by decide)] at H; exact H
              clear H
              have H := H1
              clear H1
              have H' := Aside0.mk H
              clear H
              obtain ⟨Ao32, co32, eo32⟩ := Kd.R_slice HO_12.out
              subst eo32
              go_wp2_with (first | ((with_reducible refine gate_callee (f := 84) rfl ?_); refine goesL_ (some 46) rfl rfl Try.func84 (by kernel_rfl) rfl #[.slice Ao32 x12_1.length co32] rfl (by (try simp only [List.map_toArray, List.map_cons, List.map_nil]); first | done | rfl | (simp only [List.length_drop, List.length_take]; rfl)) ?_; (with_reducible refine (spec_l05Upright.calls k1 _ _ x12_1 false _ ?side1 ?side2 A27.out).mono ?_); (case side1 => repeat (first | exact (Kd.R_reads' HO_12.out).2.2 | (with_reducible refine Kd.C_alloc ?_ _) | (with_reducible refine Kd.C_drewN ?_ _) | (with_reducible refine Kd.C_drew ?_))); (case side2 => exact (Kd.R_reads' HO_12.out).2.1); rintro e w' ⟨rfl, ⟨nd, rfl⟩⟩; refine ⟨_, rfl, ?_⟩))
              go_roundg k1
              case measure => have := HK1.out; omega
              case rel => exact ⟨(x10_1), (x12_1), (wrap64 (x13_1 + 1)), (by first | rfl | (simp; done) | (simp [*]; done)), H', ⟨by have := HK1.out; omega⟩, ⟨by (with_reducible repeat (first | apply Kd.R_alloc | apply Kd.R_drewN | apply Kd.R_drew)); exact HO_10.out⟩, ⟨by (with_reducible repeat (first | apply Kd.R_alloc | apply Kd.R_drewN | apply Kd.R_drew)); exact HO_12.out⟩, ⟨by repeat (first | (with_reducible first | exact HB.out | apply below_alloc | apply pw_below_drewN | apply below_drew1) | exact HB.out)⟩⟩
        · rw [if_neg c14] at H
          have c14b0 : decide (x13_1 ≤ a3) = false := decide_eq_false c14
          clear c14
          simp only [Option.some.injEq, Prod.mk.injEq] at H
          obtain ⟨rfl, rfl⟩ := H
          go_wp2
          go_ret2
          exact ⟨_, by first | rfl | (simp [errW_none, errW_some] <;> rfl) | (simp [*, errW_none, errW_some] <;> rfl), by (with_reducible repeat (first | apply Kd.R_alloc | apply Kd.R_drewN | apply Kd.R_drew)); exact HO_10.out, by repeat (first | (with_reducible first | exact HB.out | apply below_alloc | apply pw_below_drewN | apply below_drew1) | exact HB.out)⟩
  · rw [if_neg c8] at H
    have c8b0 : (t302 == 0) = false := beq_eq_false_iff_ne.mpr c8
    have c8b1 : (t302 != 0) = true := bne_iff_ne.mpr c8
    simp only [Option.some.injEq, Prod.mk.injEq] at H
    obtain ⟨rfl, rfl⟩ := H
    go_enter Try.func22, Try.ntmps22
    go_wp2_with (first | ((with_reducible refine gate_dst (N := 14) rfl ?_); refine Kd.R_lit (Kd.int .i64) _ 2 ?hg (N := 14) ?hd (xs := ([] : List Int)) (inner := []) (ok := fun _ => True) (okp := fun _ => True) ?hr ?hp (fun _ hk => hk) trivial (Below.refl _ _) (Nat.le_refl _) (by simp) ?_; (case hd => rfl); (case hg => rfl); (case hr => first | (go_simp; done) | (go_simp; rfl)); (case hp => exact (Reps.none _ _)); intro v298 w33 ho34 hb hg_ hnew_; clear hg_ hnew_; (first | rw [← Ny297.out] at ho34 | (simp only [Int.reduceToNat] at ho34; rw [← Ny297.out] at ho34)); have n0_ := Aside0.mk (Kd.R_lower ho34 (below_size (by repeat (first | (with_reducible first | exact HB.out | apply below_alloc | apply pw_below_drewN | apply below_drew1) | exact HB.out)))); have n1_ := Aside0.mk (below_step (by repeat (first | (with_reducible first | exact HB.out | apply below_alloc | apply pw_below_drewN | apply below_drew1) | exact HB.out)) hb); clear HB; have HO299 := n0_; have HB := n1_; clear n0_ n1_; clear hb ho34) | ((with_reducible refine gate_callee (f := 83) rfl ?_); refine goesL_ (some 19) rfl rfl Try.func83 (by kernel_rfl) rfl #[.int .i64 a2, .int .i64 a3] rfl (by (try simp only [List.map_toArray, List.map_cons, List.map_nil]); first | done | rfl | (simp only [List.length_drop, List.length_take]; rfl)) ?_; (with_reducible refine (spec_l05From.calls a2 a3 t300 _ A5.out).mono ?_); rintro e w' ⟨rfl, ⟨nd, rfl⟩⟩; refine ⟨_, rfl, ?_⟩) | ((with_reducible refine gate_callee (f := 64) rfl ?_); refine goesL_ (some 20) rfl rfl Try.func64 (by kernel_rfl) rfl #[.slice A0 l0.length c0, .slice A1 l1.length c1, .bool t300] rfl (by (try simp only [List.map_toArray, List.map_cons, List.map_nil]); first | done | rfl | (simp only [List.length_drop, List.length_take]; rfl)) ?_; (with_reducible refine (spec_l05Row.calls k _ _ l0 _ _ l1 t300 t301 _ ?side1 ?side2 ?side3 ?side4 A6.out).mono ?_); (case side1 => repeat (first | exact (Kd.C_below HR0.out (by repeat (first | (with_reducible first | exact HB.out | apply below_alloc | apply pw_below_drewN | apply below_drew1) | exact HB.out))) | (with_reducible refine Kd.C_alloc ?_ _) | (with_reducible refine Kd.C_drewN ?_ _) | (with_reducible refine Kd.C_drew ?_))); (case side2 => exact HC0.out); (case side3 => repeat (first | exact (Kd.C_below HR1.out (by repeat (first | (with_reducible first | exact HB.out | apply below_alloc | apply pw_below_drewN | apply below_drew1) | exact HB.out))) | (with_reducible refine Kd.C_alloc ?_ _) | (with_reducible refine Kd.C_drewN ?_ _) | (with_reducible refine Kd.C_drew ?_))); (case side4 => exact HC1.out); rintro e w35 ⟨rfl, hb⟩; refine ⟨_, rfl, ?_⟩; have n0_ := Aside0.mk (Kd.R_below (by (with_reducible repeat (first | apply Kd.R_alloc | apply Kd.R_drewN | apply Kd.R_drew)); exact HO299.out) hb); have n1_ := Aside0.mk (below_step (by repeat (first | (with_reducible first | exact HB.out | apply below_alloc | apply pw_below_drewN | apply below_drew1) | exact HB.out)) hb); clear HO299; clear HB; have HO299 := n0_; have HB := n1_; clear n0_ n1_; (try clear hb); (try clear hb2); (try clear hk); (try clear hi)) | ((with_reducible refine gate_callee (f := 82) rfl ?_); refine goesL_ (some 23) rfl rfl Try.func82 (by kernel_rfl) rfl #[.int .i64 t301, .int .i64 a2, .int .i64 a3] rfl (by (try simp only [List.map_toArray, List.map_cons, List.map_nil]); first | done | rfl | (simp only [List.length_drop, List.length_take]; rfl)) ?_; (with_reducible refine (spec_l05Span.calls t301 a2 a3 t302 _ A7.out).mono ?_); rintro e w' ⟨rfl, ⟨nd, rfl⟩⟩; refine ⟨_, rfl, ?_⟩))
    go_ret2
    exact ⟨_, by first | rfl | (simp [errW_none, errW_some] <;> rfl) | (simp [*, errW_none, errW_some] <;> rfl), by (with_reducible repeat (first | apply Kd.R_alloc | apply Kd.R_drewN | apply Kd.R_drew)); exact HO299.out, by repeat (first | (with_reducible first | exact HB.out | apply below_alloc | apply pw_below_drewN | apply below_drew1) | exact HB.out)⟩
end Go.Proofs.Ytmheflciiodhdaa.P
-- Written by wip/tools/mkprint.py of this repo, over the kit's print, out of the translation; Lean checks it.
namespace Go.Proofs.Ytmheflciiodhdaa.P
open Go.RowKit Go.Proofs.YtmheflciiodhdaaW.PrintWords Go.Proofs.YtmheflciiodhdaaW.PrintLast Go.Proofs.YtmheflciiodhdaaW.PrintMore
attribute [local go_sem] max2_int min2_int max_two min_two max_three min_three max_four min_four   -- for this text's walks alone
set_option linter.unusedVariables false
set_option linter.unusedSimpArgs false
/-! ### laws_FnExactUprightDays: function 4 -/
mutual
def laws_FnExactUprightDays.j0 : Nat → List Int → List (S94) → Int → Int → List Int → Int → List Int → List (S38) → List Int → Int → Bool → Option (Bool)
  | 0, _, _, _, _, _, _, _, _, _, _, _ => none
  | k + 1, x0, x1, x2, x3, x10, x11, x12, x13, x14, x15, x59 => if x59 = true then (some false) else ((laws_toRow.f k x0).bind fun t382 => ((laws_eqRow.f k x12 t382).bind fun t385 => (if t385 = true then ((laws_toWalkerS.f k x1).bind fun t386 => ((laws_eqWalkerS.f k x13 t386).bind fun t389 => (if t389 = true then ((laws_markRow.f k x12 1).bind fun bt390 => ((laws_markWalkerS.f k x13 bt390.1).bind fun bt392 => (if bt392.1 < 0 then (laws_FnExactUprightDays.j1 k x0 x1 x2 x3 x10 x11 x14 true) else ((laws_eqInt64S.f k x14 x10).bind fun t394 => (if t394 = true then (laws_FnExactUprightDays.j1 k x0 x1 x2 x3 x10 x11 x14 (x15 != x11)) else (laws_FnExactUprightDays.j1 k x0 x1 x2 x3 x10 x11 x14 true)))))) else (some false)))) else (some false))))
def laws_FnExactUprightDays.j1 : Nat → List Int → List (S94) → Int → Int → List Int → Int → List Int → Bool → Option (Bool)
  | 0, _, _, _, _, _, _, _, _ => none
  | k + 1, x0, x1, x2, x3, x10, x11, x14, x88 => if x88 = true then (some false) else ((laws_markInt64S.f k x14 1).bind fun bt395 => ((laws_heldInt64S.f k bt395.2 1).bind fun t397 => (if t397 < 0 then (some false) else (if t397 = bt395.1 then ((laws_toRow.f k x0).bind fun t398 => ((laws_toWalkerS.f k x1).bind fun t401 => ((impl_UprightDays.f k t398 t401 x2 x3).bind fun bt404 => ((laws_eqInt64S.f k bt404.1 x10).bind fun t408 => (if t408 = true then (laws_FnExactUprightDays.j2 k bt395.2 bt395.1 (bt404.2 != x11)) else (laws_FnExactUprightDays.j2 k bt395.2 bt395.1 true)))))) else (some false)))))
def laws_FnExactUprightDays.j2 : Nat → List Int → Int → Bool → Option (Bool)
  | 0, _, _, _ => none
  | k + 1, x14, x17, x118 => if x118 = true then (some false) else ((laws_heldInt64S.f k x14 1).bind fun t409 => (if t409 < 0 then (some false) else (if t409 = x17 then (some true) else (some false))))
end
def laws_FnExactUprightDays.f (k : Nat) (l0 : List Int) (l1 : List (S94)) (a2 : Int) (a3 : Int) : Option (Bool) := if (l0.length : Int) > 1048576 then (some true) else ((laws_szWalkerS.f l1 1048576).bind fun t360 => (if t360 < 0 then (some true) else ((laws_toRow.f k l0).bind fun t361 => ((laws_toWalkerS.f k l1).bind fun t364 => ((spec_UprightDays.f k t361 t364 a2 a3).bind fun bt367 => ((laws_toRow.f k l0).bind fun t371 => ((laws_toWalkerS.f k l1).bind fun t374 => ((impl_UprightDays.f k t371 t374 a2 a3).bind fun bt377 => ((laws_eqInt64S.f k bt377.1 bt367.1).bind fun t381 => (if t381 = true then (laws_FnExactUprightDays.j0 k l0 l1 a2 a3 bt367.1 bt367.2 t371 t374 bt377.1 bt377.2 (bt377.2 != bt367.2)) else (laws_FnExactUprightDays.j0 k l0 l1 a2 a3 bt367.1 bt367.2 t371 t374 bt377.1 bt377.2 true)))))))))))
theorem laws_FnExactUprightDays.mono_l : ∀ k, (∀ y0 y1 y2 y3 y4 y5 y6 y7 y8 y9 y10, LeO (laws_FnExactUprightDays.j0 k y0 y1 y2 y3 y4 y5 y6 y7 y8 y9 y10) (laws_FnExactUprightDays.j0 (k + 1) y0 y1 y2 y3 y4 y5 y6 y7 y8 y9 y10)) ∧ (∀ y0 y1 y2 y3 y4 y5 y6 y7, LeO (laws_FnExactUprightDays.j1 k y0 y1 y2 y3 y4 y5 y6 y7) (laws_FnExactUprightDays.j1 (k + 1) y0 y1 y2 y3 y4 y5 y6 y7)) ∧ (∀ y0 y1 y2, LeO (laws_FnExactUprightDays.j2 k y0 y1 y2) (laws_FnExactUprightDays.j2 (k + 1) y0 y1 y2))
  | 0 => ⟨fun _ _ _ _ _ _ _ _ _ _ _ r h => by simp [laws_FnExactUprightDays.j0] at h, fun _ _ _ _ _ _ _ _ r h => by simp [laws_FnExactUprightDays.j1] at h, fun _ _ _ r h => by simp [laws_FnExactUprightDays.j2] at h⟩
  | k + 1 => by
    obtain ⟨ih0, ih1, ih2⟩ := laws_FnExactUprightDays.mono_l k
    refine ⟨?_, ?_, ?_⟩
    · intro y0 y1 y2 y3 y4 y5 y6 y7 y8 y9 y10
      unfold laws_FnExactUprightDays.j0
      repeat' first
      | (with_reducible exact ih0 _ _ _ _ _ _ _ _ _ _ _)
      | (with_reducible exact ih1 _ _ _ _ _ _ _ _)
      | (with_reducible exact ih2 _ _ _)
      | (with_reducible exact impl_UprightDays.mono _ _ _ _ _)
      | (with_reducible exact laws_eqInt64S.mono _ _ _)
      | (with_reducible exact laws_eqRow.mono _ _ _)
      | (with_reducible exact laws_eqWalkerS.mono _ _ _)
      | (with_reducible exact laws_heldInt64S.mono _ _ _)
      | (with_reducible exact laws_markInt64S.mono _ _ _)
      | (with_reducible exact laws_markRow.mono _ _ _)
      | (with_reducible exact laws_markWalkerS.mono _ _ _)
      | (with_reducible exact laws_toRow.mono _ _)
      | (with_reducible exact laws_toWalkerS.mono _ _)
      | (with_reducible exact spec_UprightDays.mono _ _ _ _ _)
      | (with_reducible exact LeO.refl _)
      | (with_reducible exact LeO.none _)
      | (with_reducible refine LeO.ite ?_ ?_)
      | (with_reducible refine LeO.bind ?_ (fun _ => ?_))
      | exact ih0 _ _ _ _ _ _ _ _ _ _ _
      | exact ih1 _ _ _ _ _ _ _ _
      | exact ih2 _ _ _
      | exact impl_UprightDays.mono _ _ _ _ _
      | exact laws_eqInt64S.mono _ _ _
      | exact laws_eqRow.mono _ _ _
      | exact laws_eqWalkerS.mono _ _ _
      | exact laws_heldInt64S.mono _ _ _
      | exact laws_markInt64S.mono _ _ _
      | exact laws_markRow.mono _ _ _
      | exact laws_markWalkerS.mono _ _ _
      | exact laws_toRow.mono _ _
      | exact laws_toWalkerS.mono _ _
      | exact spec_UprightDays.mono _ _ _ _ _
      | exact LeO.none _
      | refine LeO.ite ?_ ?_
      | refine LeO.bind ?_ (fun _ => ?_)
    · intro y0 y1 y2 y3 y4 y5 y6 y7
      unfold laws_FnExactUprightDays.j1
      repeat' first
      | (with_reducible exact ih0 _ _ _ _ _ _ _ _ _ _ _)
      | (with_reducible exact ih1 _ _ _ _ _ _ _ _)
      | (with_reducible exact ih2 _ _ _)
      | (with_reducible exact impl_UprightDays.mono _ _ _ _ _)
      | (with_reducible exact laws_eqInt64S.mono _ _ _)
      | (with_reducible exact laws_eqRow.mono _ _ _)
      | (with_reducible exact laws_eqWalkerS.mono _ _ _)
      | (with_reducible exact laws_heldInt64S.mono _ _ _)
      | (with_reducible exact laws_markInt64S.mono _ _ _)
      | (with_reducible exact laws_markRow.mono _ _ _)
      | (with_reducible exact laws_markWalkerS.mono _ _ _)
      | (with_reducible exact laws_toRow.mono _ _)
      | (with_reducible exact laws_toWalkerS.mono _ _)
      | (with_reducible exact spec_UprightDays.mono _ _ _ _ _)
      | (with_reducible exact LeO.refl _)
      | (with_reducible exact LeO.none _)
      | (with_reducible refine LeO.ite ?_ ?_)
      | (with_reducible refine LeO.bind ?_ (fun _ => ?_))
      | exact ih0 _ _ _ _ _ _ _ _ _ _ _
      | exact ih1 _ _ _ _ _ _ _ _
      | exact ih2 _ _ _
      | exact impl_UprightDays.mono _ _ _ _ _
      | exact laws_eqInt64S.mono _ _ _
      | exact laws_eqRow.mono _ _ _
      | exact laws_eqWalkerS.mono _ _ _
      | exact laws_heldInt64S.mono _ _ _
      | exact laws_markInt64S.mono _ _ _
      | exact laws_markRow.mono _ _ _
      | exact laws_markWalkerS.mono _ _ _
      | exact laws_toRow.mono _ _
      | exact laws_toWalkerS.mono _ _
      | exact spec_UprightDays.mono _ _ _ _ _
      | exact LeO.none _
      | refine LeO.ite ?_ ?_
      | refine LeO.bind ?_ (fun _ => ?_)
    · intro y0 y1 y2
      unfold laws_FnExactUprightDays.j2
      repeat' first
      | (with_reducible exact ih0 _ _ _ _ _ _ _ _ _ _ _)
      | (with_reducible exact ih1 _ _ _ _ _ _ _ _)
      | (with_reducible exact ih2 _ _ _)
      | (with_reducible exact impl_UprightDays.mono _ _ _ _ _)
      | (with_reducible exact laws_eqInt64S.mono _ _ _)
      | (with_reducible exact laws_eqRow.mono _ _ _)
      | (with_reducible exact laws_eqWalkerS.mono _ _ _)
      | (with_reducible exact laws_heldInt64S.mono _ _ _)
      | (with_reducible exact laws_markInt64S.mono _ _ _)
      | (with_reducible exact laws_markRow.mono _ _ _)
      | (with_reducible exact laws_markWalkerS.mono _ _ _)
      | (with_reducible exact laws_toRow.mono _ _)
      | (with_reducible exact laws_toWalkerS.mono _ _)
      | (with_reducible exact spec_UprightDays.mono _ _ _ _ _)
      | (with_reducible exact LeO.refl _)
      | (with_reducible exact LeO.none _)
      | (with_reducible refine LeO.ite ?_ ?_)
      | (with_reducible refine LeO.bind ?_ (fun _ => ?_))
      | exact ih0 _ _ _ _ _ _ _ _ _ _ _
      | exact ih1 _ _ _ _ _ _ _ _
      | exact ih2 _ _ _
      | exact impl_UprightDays.mono _ _ _ _ _
      | exact laws_eqInt64S.mono _ _ _
      | exact laws_eqRow.mono _ _ _
      | exact laws_eqWalkerS.mono _ _ _
      | exact laws_heldInt64S.mono _ _ _
      | exact laws_markInt64S.mono _ _ _
      | exact laws_markRow.mono _ _ _
      | exact laws_markWalkerS.mono _ _ _
      | exact laws_toRow.mono _ _
      | exact laws_toWalkerS.mono _ _
      | exact spec_UprightDays.mono _ _ _ _ _
      | exact LeO.none _
      | refine LeO.ite ?_ ?_
      | refine LeO.bind ?_ (fun _ => ?_)
theorem laws_FnExactUprightDays.mono : ∀ a0 a1 a2 a3 k, LeO (laws_FnExactUprightDays.f k a0 a1 a2 a3) (laws_FnExactUprightDays.f (k + 1) a0 a1 a2 a3) := by
  intro a0 a1 a2 a3 k
  obtain ⟨ih0, ih1, ih2⟩ := laws_FnExactUprightDays.mono_l k
  unfold laws_FnExactUprightDays.f
  repeat' first
      | (with_reducible exact ih0 _ _ _ _ _ _ _ _ _ _ _)
      | (with_reducible exact ih1 _ _ _ _ _ _ _ _)
      | (with_reducible exact ih2 _ _ _)
      | (with_reducible exact impl_UprightDays.mono _ _ _ _ _)
      | (with_reducible exact laws_eqInt64S.mono _ _ _)
      | (with_reducible exact laws_eqRow.mono _ _ _)
      | (with_reducible exact laws_eqWalkerS.mono _ _ _)
      | (with_reducible exact laws_heldInt64S.mono _ _ _)
      | (with_reducible exact laws_markInt64S.mono _ _ _)
      | (with_reducible exact laws_markRow.mono _ _ _)
      | (with_reducible exact laws_markWalkerS.mono _ _ _)
      | (with_reducible exact laws_toRow.mono _ _)
      | (with_reducible exact laws_toWalkerS.mono _ _)
      | (with_reducible exact spec_UprightDays.mono _ _ _ _ _)
      | (with_reducible exact LeO.refl _)
      | (with_reducible exact LeO.none _)
      | (with_reducible refine LeO.ite ?_ ?_)
      | (with_reducible refine LeO.bind ?_ (fun _ => ?_))
      | exact ih0 _ _ _ _ _ _ _ _ _ _ _
      | exact ih1 _ _ _ _ _ _ _ _
      | exact ih2 _ _ _
      | exact impl_UprightDays.mono _ _ _ _ _
      | exact laws_eqInt64S.mono _ _ _
      | exact laws_eqRow.mono _ _ _
      | exact laws_eqWalkerS.mono _ _ _
      | exact laws_heldInt64S.mono _ _ _
      | exact laws_markInt64S.mono _ _ _
      | exact laws_markRow.mono _ _ _
      | exact laws_markWalkerS.mono _ _ _
      | exact laws_toRow.mono _ _
      | exact laws_toWalkerS.mono _ _
      | exact spec_UprightDays.mono _ _ _ _ _
      | exact LeO.none _
      | refine LeO.ite ?_ ?_
      | refine LeO.bind ?_ (fun _ => ?_)
set_option maxHeartbeats 8000000 in
set_option maxRecDepth 100000 in
theorem laws_FnExactUprightDays.calls (k : Nat) (A0 : Option Addr) (c0 : Nat) (l0 : List Int) (A1 : Option Addr) (c1 : Nat) (l1 : List (S94)) (a2 : Int) (a3 : Int) (r : Bool) (w : World) (hr0 : Kd.C (Kd.int .u8) w A0 l0.length l0) (hc0 : l0.length ≤ c0) (hr1 : Kd.C k94 w A1 l1.length l1) (hc1 : l1.length ≤ c1) (h : laws_FnExactUprightDays.f k l0 l1 a2 a3 = some r) :
    Calls Try.prog 4 #[.slice A0 l0.length c0, .slice A1 l1.length c1, .int .i64 a2, .int .i64 a3] w fun e w' => e = .returned (.bool r) ∧ Below w.heap.size w w' := by
  have HR0 := Aside0.mk hr0
  have HC0 := Aside0.mk hc0
  clear hr0 hc0
  have HR1 := Aside0.mk hr1
  have HC1 := Aside0.mk hc1
  clear hr1 hc1
  have HB := Aside0.mk (Below.refl w.heap.size w)
  have H : (if (l0.length : Int) > 1048576 then (some true) else ((laws_szWalkerS.f l1 1048576).bind fun t360 => (if t360 < 0 then (some true) else ((laws_toRow.f k l0).bind fun t361 => ((laws_toWalkerS.f k l1).bind fun t364 => ((spec_UprightDays.f k t361 t364 a2 a3).bind fun bt367 => ((laws_toRow.f k l0).bind fun t371 => ((laws_toWalkerS.f k l1).bind fun t374 => ((impl_UprightDays.f k t371 t374 a2 a3).bind fun bt377 => ((laws_eqInt64S.f k bt377.1 bt367.1).bind fun t381 => (if t381 = true then (laws_FnExactUprightDays.j0 k l0 l1 a2 a3 bt367.1 bt367.2 t371 t374 bt377.1 bt377.2 (bt377.2 != bt367.2)) else (laws_FnExactUprightDays.j0 k l0 l1 a2 a3 bt367.1 bt367.2 t371 t374 bt377.1 bt377.2 true)))))))))))) = some r := h
  clear h
  by_cases c5 : (l0.length : Int) > 1048576
  · rw [if_pos c5] at H
    have c5b0 : decide (1048576 < (l0.length : Int)) = true := decide_eq_true c5
    have c5b1 : decide (1048576 < l0.length) = true := decide_eq_true (by omega)
    clear c5
    obtain rfl := Option.some.inj H
    go_enter Try.func4, Try.ntmps4
    go_wp2
    go_ret
    exact ⟨by first | rfl | (simp [errW_none, errW_some] <;> rfl) | (simp [*, errW_none, errW_some] <;> rfl), by repeat (first | (with_reducible first | exact HB.out | apply below_alloc | apply pw_below_drewN | apply below_drew1) | exact HB.out)⟩
  · rw [if_neg c5] at H
    have c5b0 : decide (1048576 < (l0.length : Int)) = false := decide_eq_false c5
    have c5b1 : decide (1048576 < l0.length) = false := decide_eq_false (by omega)
    clear c5
    replace H := Option.bind_eq_some_iff.mp H
    obtain ⟨t360, A60, H⟩ := H
    replace H : (if t360 < 0 then (some true) else ((laws_toRow.f k l0).bind fun t361 => ((laws_toWalkerS.f k l1).bind fun t364 => ((spec_UprightDays.f k t361 t364 a2 a3).bind fun bt367 => ((laws_toRow.f k l0).bind fun t371 => ((laws_toWalkerS.f k l1).bind fun t374 => ((impl_UprightDays.f k t371 t374 a2 a3).bind fun bt377 => ((laws_eqInt64S.f k bt377.1 bt367.1).bind fun t381 => (if t381 = true then (laws_FnExactUprightDays.j0 k l0 l1 a2 a3 bt367.1 bt367.2 t371 t374 bt377.1 bt377.2 (bt377.2 != bt367.2)) else (laws_FnExactUprightDays.j0 k l0 l1 a2 a3 bt367.1 bt367.2 t371 t374 bt377.1 bt377.2 true)))))))))) = some r := H
    have A6 := Aside0.mk A60
    clear A60
    by_cases c7 : t360 < 0
    · rw [if_pos c7] at H
      have c7b0 : decide (t360 < 0) = true := decide_eq_true c7
      clear c7
      obtain rfl := Option.some.inj H
      go_enter Try.func4, Try.ntmps4
      go_wp2_with (first | ((with_reducible refine gate_callee (f := 21) rfl ?_); refine goesL_ (some 26) rfl rfl Try.func21 (by kernel_rfl) rfl #[.slice A1 l1.length c1, .int .i64 1048576] rfl (by (try simp only [List.map_toArray, List.map_cons, List.map_nil]); first | done | rfl | (simp only [List.length_drop, List.length_take]; rfl)) ?_; (with_reducible refine (laws_szWalkerS.calls _ _ l1 1048576 t360 _ ?side1 ?side2 A6.out).mono ?_); (case side1 => repeat (first | exact HR1.out | (with_reducible refine Kd.C_alloc ?_ _) | (with_reducible refine Kd.C_drewN ?_ _) | (with_reducible refine Kd.C_drew ?_))); (case side2 => exact HC1.out); rintro e w' ⟨rfl, ⟨nd, rfl⟩⟩; refine ⟨_, rfl, ?_⟩))
      go_ret
      exact ⟨by first | rfl | (simp [errW_none, errW_some] <;> rfl) | (simp [*, errW_none, errW_some] <;> rfl), by repeat (first | (with_reducible first | exact HB.out | apply below_alloc | apply pw_below_drewN | apply below_drew1) | exact HB.out)⟩
    · rw [if_neg c7] at H
      have c7b0 : decide (t360 < 0) = false := decide_eq_false c7
      clear c7
      replace H := Option.bind_eq_some_iff.mp H
      obtain ⟨t361, A80, H⟩ := H
      replace H : ((laws_toWalkerS.f k l1).bind fun t364 => ((spec_UprightDays.f k t361 t364 a2 a3).bind fun bt367 => ((laws_toRow.f k l0).bind fun t371 => ((laws_toWalkerS.f k l1).bind fun t374 => ((impl_UprightDays.f k t371 t374 a2 a3).bind fun bt377 => ((laws_eqInt64S.f k bt377.1 bt367.1).bind fun t381 => (if t381 = true then (laws_FnExactUprightDays.j0 k l0 l1 a2 a3 bt367.1 bt367.2 t371 t374 bt377.1 bt377.2 (bt377.2 != bt367.2)) else (laws_FnExactUprightDays.j0 k l0 l1 a2 a3 bt367.1 bt367.2 t371 t374 bt377.1 bt377.2 true)))))))) = some r := H
      have A8 := Aside0.mk A80
      clear A80
      replace H := Option.bind_eq_some_iff.mp H
      obtain ⟨t364, A90, H⟩ := H
      replace H : ((spec_UprightDays.f k t361 t364 a2 a3).bind fun bt367 => ((laws_toRow.f k l0).bind fun t371 => ((laws_toWalkerS.f k l1).bind fun t374 => ((impl_UprightDays.f k t371 t374 a2 a3).bind fun bt377 => ((laws_eqInt64S.f k bt377.1 bt367.1).bind fun t381 => (if t381 = true then (laws_FnExactUprightDays.j0 k l0 l1 a2 a3 bt367.1 bt367.2 t371 t374 bt377.1 bt377.2 (bt377.2 != bt367.2)) else (laws_FnExactUprightDays.j0 k l0 l1 a2 a3 bt367.1 bt367.2 t371 t374 bt377.1 bt377.2 true))))))) = some r := H
      have A9 := Aside0.mk A90
      clear A90
      replace H := Option.bind_eq_some_iff.mp H
      obtain ⟨⟨t367, t368⟩, A100, H⟩ := H
      replace H : ((laws_toRow.f k l0).bind fun t371 => ((laws_toWalkerS.f k l1).bind fun t374 => ((impl_UprightDays.f k t371 t374 a2 a3).bind fun bt377 => ((laws_eqInt64S.f k bt377.1 t367).bind fun t381 => (if t381 = true then (laws_FnExactUprightDays.j0 k l0 l1 a2 a3 t367 t368 t371 t374 bt377.1 bt377.2 (bt377.2 != t368)) else (laws_FnExactUprightDays.j0 k l0 l1 a2 a3 t367 t368 t371 t374 bt377.1 bt377.2 true)))))) = some r := H
      have A10 := Aside0.mk A100
      clear A100
      replace H := Option.bind_eq_some_iff.mp H
      obtain ⟨t371, A110, H⟩ := H
      replace H : ((laws_toWalkerS.f k l1).bind fun t374 => ((impl_UprightDays.f k t371 t374 a2 a3).bind fun bt377 => ((laws_eqInt64S.f k bt377.1 t367).bind fun t381 => (if t381 = true then (laws_FnExactUprightDays.j0 k l0 l1 a2 a3 t367 t368 t371 t374 bt377.1 bt377.2 (bt377.2 != t368)) else (laws_FnExactUprightDays.j0 k l0 l1 a2 a3 t367 t368 t371 t374 bt377.1 bt377.2 true))))) = some r := H
      have A11 := Aside0.mk A110
      clear A110
      replace H := Option.bind_eq_some_iff.mp H
      obtain ⟨t374, A120, H⟩ := H
      replace H : ((impl_UprightDays.f k t371 t374 a2 a3).bind fun bt377 => ((laws_eqInt64S.f k bt377.1 t367).bind fun t381 => (if t381 = true then (laws_FnExactUprightDays.j0 k l0 l1 a2 a3 t367 t368 t371 t374 bt377.1 bt377.2 (bt377.2 != t368)) else (laws_FnExactUprightDays.j0 k l0 l1 a2 a3 t367 t368 t371 t374 bt377.1 bt377.2 true)))) = some r := H
      have A12 := Aside0.mk A120
      clear A120
      replace H := Option.bind_eq_some_iff.mp H
      obtain ⟨⟨t377, t378⟩, A130, H⟩ := H
      replace H : ((laws_eqInt64S.f k t377 t367).bind fun t381 => (if t381 = true then (laws_FnExactUprightDays.j0 k l0 l1 a2 a3 t367 t368 t371 t374 t377 t378 (t378 != t368)) else (laws_FnExactUprightDays.j0 k l0 l1 a2 a3 t367 t368 t371 t374 t377 t378 true))) = some r := H
      have A13 := Aside0.mk A130
      clear A130
      have HC14 := Aside0.mk H
      clear H
      go_enter Try.func4, Try.ntmps4
      go_upto_region 11 with (first | ((with_reducible refine gate_callee (f := 21) rfl ?_); refine goesL_ (some 26) rfl rfl Try.func21 (by kernel_rfl) rfl #[.slice A1 l1.length c1, .int .i64 1048576] rfl (by (try simp only [List.map_toArray, List.map_cons, List.map_nil]); first | done | rfl | (simp only [List.length_drop, List.length_take]; rfl)) ?_; (with_reducible refine (laws_szWalkerS.calls _ _ l1 1048576 t360 _ ?side1 ?side2 A6.out).mono ?_); (case side1 => repeat (first | exact HR1.out | (with_reducible refine Kd.C_alloc ?_ _) | (with_reducible refine Kd.C_drewN ?_ _) | (with_reducible refine Kd.C_drew ?_))); (case side2 => exact HC1.out); rintro e w' ⟨rfl, ⟨nd, rfl⟩⟩; refine ⟨_, rfl, ?_⟩) | ((with_reducible refine gate_callee (f := 23) rfl ?_); refine goesL_ (some 31) rfl rfl Try.func23 (by kernel_rfl) rfl #[.slice A0 l0.length c0] rfl (by (try simp only [List.map_toArray, List.map_cons, List.map_nil]); first | done | rfl | (simp only [List.length_drop, List.length_take]; rfl)) ?_; (with_reducible refine (laws_toRow.calls k _ _ l0 t361 _ ?side1 ?side2 A8.out).mono ?_); (case side1 => repeat (first | exact HR0.out | (with_reducible refine Kd.C_alloc ?_ _) | (with_reducible refine Kd.C_drewN ?_ _) | (with_reducible refine Kd.C_drew ?_))); (case side2 => exact HC0.out); rintro e w15 ⟨v362, rfl, ho0, hb⟩; refine ⟨_, rfl, ?_⟩; have n0_ := Aside0.mk (Kd.R_lower ho0 (below_size (by repeat (first | (with_reducible first | exact HB.out | apply below_alloc | apply pw_below_drewN | apply below_drew1) | exact HB.out)))); have n1_ := Aside0.mk (below_step (by repeat (first | (with_reducible first | exact HB.out | apply below_alloc | apply pw_below_drewN | apply below_drew1) | exact HB.out)) hb); clear HB; have HO363 := n0_; have HB := n1_; clear n0_ n1_; (try clear hb); (try clear hb2); (try clear hk); (try clear hi); (try clear ho0)) | ((with_reducible refine gate_callee (f := 24) rfl ?_); refine goesL_ (some 33) rfl rfl Try.func24 (by kernel_rfl) rfl #[.slice A1 l1.length c1] rfl (by (try simp only [List.map_toArray, List.map_cons, List.map_nil]); first | done | rfl | (simp only [List.length_drop, List.length_take]; rfl)) ?_; (with_reducible refine (laws_toWalkerS.calls k _ _ l1 t364 _ ?side1 ?side2 A9.out).mono ?_); (case side1 => repeat (first | exact (Kd.C_below HR1.out HB.out) | (with_reducible refine Kd.C_alloc ?_ _) | (with_reducible refine Kd.C_drewN ?_ _) | (with_reducible refine Kd.C_drew ?_))); (case side2 => exact HC1.out); rintro e w16 ⟨v365, rfl, ho0, hb⟩; refine ⟨_, rfl, ?_⟩; have n0_ := Aside0.mk (Kd.R_below (by (with_reducible repeat (first | apply Kd.R_alloc | apply Kd.R_drewN | apply Kd.R_drew)); exact HO363.out) hb); have n1_ := Aside0.mk (Kd.R_lower ho0 (below_size (by repeat (first | (with_reducible first | exact HB.out | apply below_alloc | apply pw_below_drewN | apply below_drew1) | exact HB.out)))); have n2_ := Aside0.mk (below_step (by repeat (first | (with_reducible first | exact HB.out | apply below_alloc | apply pw_below_drewN | apply below_drew1) | exact HB.out)) hb); clear HO363; clear HB; have HO363 := n0_; have HO366 := n1_; have HB := n2_; clear n0_ n1_ n2_; (try clear hb); (try clear hb2); (try clear hk); (try clear hi); (try clear ho0); obtain ⟨Ao17, co17, eo17⟩ := Kd.R_slice HO363.out; subst eo17; obtain ⟨Ao18, co18, eo18⟩ := Kd.R_slice HO366.out; subst eo18) | ((with_reducible refine gate_callee (f := 22) rfl ?_); refine goesL_ (some 36) rfl rfl Try.func22 (by kernel_rfl) rfl #[.slice Ao17 t361.length co17, .slice Ao18 t364.length co18, .int .i64 a2, .int .i64 a3] rfl (by (try simp only [List.map_toArray, List.map_cons, List.map_nil]); first | done | rfl | (simp only [List.length_drop, List.length_take]; rfl)) ?_; (with_reducible refine (spec_UprightDays.calls k _ _ t361 _ _ t364 a2 a3 t367 t368 _ ?side1 ?side2 ?side3 ?side4 A10.out).mono ?_); (case side1 => repeat (first | exact (Kd.R_reads' HO363.out).2.2 | (with_reducible refine Kd.C_alloc ?_ _) | (with_reducible refine Kd.C_drewN ?_ _) | (with_reducible refine Kd.C_drew ?_))); (case side2 => exact (Kd.R_reads' HO363.out).2.1); (case side3 => repeat (first | exact (Kd.R_reads' HO366.out).2.2 | (with_reducible refine Kd.C_alloc ?_ _) | (with_reducible refine Kd.C_drewN ?_ _) | (with_reducible refine Kd.C_drew ?_))); (case side4 => exact (Kd.R_reads' HO366.out).2.1); rintro e w19 ⟨v369, rfl, ho0, hb⟩; refine ⟨_, rfl, ?_⟩; have n0_ := Aside0.mk (Kd.R_below (by (with_reducible repeat (first | apply Kd.R_alloc | apply Kd.R_drewN | apply Kd.R_drew)); exact HO363.out) hb); have n1_ := Aside0.mk (Kd.R_below (by (with_reducible repeat (first | apply Kd.R_alloc | apply Kd.R_drewN | apply Kd.R_drew)); exact HO366.out) hb); have n2_ := Aside0.mk (Kd.R_lower ho0 (below_size (by repeat (first | (with_reducible first | exact HB.out | apply below_alloc | apply pw_below_drewN | apply below_drew1) | exact HB.out)))); have n3_ := Aside0.mk (below_step (by repeat (first | (with_reducible first | exact HB.out | apply below_alloc | apply pw_below_drewN | apply below_drew1) | exact HB.out)) hb); clear HO363; clear HO366; clear HB; have HO363 := n0_; have HO366 := n1_; have HO370 := n2_; have HB := n3_; clear n0_ n1_ n2_ n3_; (try clear hb); (try clear hb2); (try clear hk); (try clear hi); (try clear ho0)) | ((with_reducible refine gate_callee (f := 23) rfl ?_); refine goesL_ (some 40) rfl rfl Try.func23 (by kernel_rfl) rfl #[.slice A0 l0.length c0] rfl (by (try simp only [List.map_toArray, List.map_cons, List.map_nil]); first | done | rfl | (simp only [List.length_drop, List.length_take]; rfl)) ?_; (with_reducible refine (laws_toRow.calls k _ _ l0 t371 _ ?side1 ?side2 A11.out).mono ?_); (case side1 => repeat (first | exact (Kd.C_below HR0.out HB.out) | (with_reducible refine Kd.C_alloc ?_ _) | (with_reducible refine Kd.C_drewN ?_ _) | (with_reducible refine Kd.C_drew ?_))); (case side2 => exact HC0.out); rintro e w20 ⟨v372, rfl, ho0, hb⟩; refine ⟨_, rfl, ?_⟩; have n0_ := Aside0.mk (Kd.R_elder' (by (with_reducible repeat (first | apply Kd.R_alloc | apply Kd.R_drewN | apply Kd.R_drew)); exact HO363.out) (Kd.R_base ho0) hb); have n1_ := Aside0.mk (Kd.R_below (by (with_reducible repeat (first | apply Kd.R_alloc | apply Kd.R_drewN | apply Kd.R_drew)); exact HO366.out) hb); have n2_ := Aside0.mk (Kd.R_below (by (with_reducible repeat (first | apply Kd.R_alloc | apply Kd.R_drewN | apply Kd.R_drew)); exact HO370.out) hb); have n3_ := Aside0.mk (Kd.R_lower (Kd.R_new' ho0 (Kd.R_lt (by (with_reducible repeat (first | apply Kd.R_alloc | apply Kd.R_drewN | apply Kd.R_drew)); exact HO363.out))) (below_size (by repeat (first | (with_reducible first | exact HB.out | apply below_alloc | apply pw_below_drewN | apply below_drew1) | exact HB.out)))); have n4_ := Aside0.mk (below_step (by repeat (first | (with_reducible first | exact HB.out | apply below_alloc | apply pw_below_drewN | apply below_drew1) | exact HB.out)) hb); clear HO363; clear HO366; clear HO370; clear HB; have HO363 := n0_; have HO366 := n1_; have HO370 := n2_; have HO373 := n3_; have HB := n4_; clear n0_ n1_ n2_ n3_ n4_; (try clear hb); (try clear hb2); (try clear hk); (try clear hi); (try clear ho0)) | ((with_reducible refine gate_callee (f := 24) rfl ?_); refine goesL_ (some 42) rfl rfl Try.func24 (by kernel_rfl) rfl #[.slice A1 l1.length c1] rfl (by (try simp only [List.map_toArray, List.map_cons, List.map_nil]); first | done | rfl | (simp only [List.length_drop, List.length_take]; rfl)) ?_; (with_reducible refine (laws_toWalkerS.calls k _ _ l1 t374 _ ?side1 ?side2 A12.out).mono ?_); (case side1 => repeat (first | exact (Kd.C_below HR1.out HB.out) | (with_reducible refine Kd.C_alloc ?_ _) | (with_reducible refine Kd.C_drewN ?_ _) | (with_reducible refine Kd.C_drew ?_))); (case side2 => exact HC1.out); rintro e w21 ⟨v375, rfl, ho0, hb⟩; refine ⟨_, rfl, ?_⟩; have n0_ := Aside0.mk (Kd.R_below (by (with_reducible repeat (first | apply Kd.R_alloc | apply Kd.R_drewN | apply Kd.R_drew)); exact HO363.out) hb); have n1_ := Aside0.mk (Kd.R_elder' (by (with_reducible repeat (first | apply Kd.R_alloc | apply Kd.R_drewN | apply Kd.R_drew)); exact HO366.out) (Kd.R_base ho0) hb); have n2_ := Aside0.mk (Kd.R_below (by (with_reducible repeat (first | apply Kd.R_alloc | apply Kd.R_drewN | apply Kd.R_drew)); exact HO370.out) hb); have n3_ := Aside0.mk (Kd.R_below (by (with_reducible repeat (first | apply Kd.R_alloc | apply Kd.R_drewN | apply Kd.R_drew)); exact HO373.out) hb); have n4_ := Aside0.mk (Kd.R_lower (Kd.R_new' ho0 (Kd.R_lt (by (with_reducible repeat (first | apply Kd.R_alloc | apply Kd.R_drewN | apply Kd.R_drew)); exact HO366.out))) (below_size (by repeat (first | (with_reducible first | exact HB.out | apply below_alloc | apply pw_below_drewN | apply below_drew1) | exact HB.out)))); have n5_ := Aside0.mk (below_step (by repeat (first | (with_reducible first | exact HB.out | apply below_alloc | apply pw_below_drewN | apply below_drew1) | exact HB.out)) hb); clear HO363; clear HO366; clear HO370; clear HO373; clear HB; have HO363 := n0_; have HO366 := n1_; have HO370 := n2_; have HO373 := n3_; have HO376 := n4_; have HB := n5_; clear n0_ n1_ n2_ n3_ n4_ n5_; (try clear hb); (try clear hb2); (try clear hk); (try clear hi); (try clear ho0); obtain ⟨Ao22, co22, eo22⟩ := Kd.R_slice HO373.out; subst eo22; obtain ⟨Ao23, co23, eo23⟩ := Kd.R_slice HO376.out; subst eo23) | ((with_reducible refine gate_callee (f := 25) rfl ?_); refine goesL_ (some 48) rfl rfl Try.func25 (by kernel_rfl) rfl #[.slice Ao22 t371.length co22, .slice Ao23 t374.length co23, .int .i64 a2, .int .i64 a3] rfl (by (try simp only [List.map_toArray, List.map_cons, List.map_nil]); first | done | rfl | (simp only [List.length_drop, List.length_take]; rfl)) ?_; (with_reducible refine (impl_UprightDays.calls k _ _ t371 _ _ t374 a2 a3 t377 t378 _ ?side1 ?side2 ?side3 ?side4 A13.out).mono ?_); (case side1 => repeat (first | exact (Kd.R_reads' HO373.out).2.2 | (with_reducible refine Kd.C_alloc ?_ _) | (with_reducible refine Kd.C_drewN ?_ _) | (with_reducible refine Kd.C_drew ?_))); (case side2 => exact (Kd.R_reads' HO373.out).2.1); (case side3 => repeat (first | exact (Kd.R_reads' HO376.out).2.2 | (with_reducible refine Kd.C_alloc ?_ _) | (with_reducible refine Kd.C_drewN ?_ _) | (with_reducible refine Kd.C_drew ?_))); (case side4 => exact (Kd.R_reads' HO376.out).2.1); rintro e w24 ⟨v379, rfl, ho0, hb⟩; refine ⟨_, rfl, ?_⟩; have n0_ := Aside0.mk (Kd.R_below (by (with_reducible repeat (first | apply Kd.R_alloc | apply Kd.R_drewN | apply Kd.R_drew)); exact HO363.out) hb); have n1_ := Aside0.mk (Kd.R_below (by (with_reducible repeat (first | apply Kd.R_alloc | apply Kd.R_drewN | apply Kd.R_drew)); exact HO366.out) hb); have n2_ := Aside0.mk (Kd.R_elder' (by (with_reducible repeat (first | apply Kd.R_alloc | apply Kd.R_drewN | apply Kd.R_drew)); exact HO370.out) (Kd.R_base ho0) hb); have n3_ := Aside0.mk (Kd.R_below (by (with_reducible repeat (first | apply Kd.R_alloc | apply Kd.R_drewN | apply Kd.R_drew)); exact HO373.out) hb); have n4_ := Aside0.mk (Kd.R_below (by (with_reducible repeat (first | apply Kd.R_alloc | apply Kd.R_drewN | apply Kd.R_drew)); exact HO376.out) hb); have n5_ := Aside0.mk (Kd.R_lower (Kd.R_new' ho0 (Kd.R_lt (by (with_reducible repeat (first | apply Kd.R_alloc | apply Kd.R_drewN | apply Kd.R_drew)); exact HO370.out))) (below_size (by repeat (first | (with_reducible first | exact HB.out | apply below_alloc | apply pw_below_drewN | apply below_drew1) | exact HB.out)))); have n6_ := Aside0.mk (below_step (by repeat (first | (with_reducible first | exact HB.out | apply below_alloc | apply pw_below_drewN | apply below_drew1) | exact HB.out)) hb); clear HO363; clear HO366; clear HO370; clear HO373; clear HO376; clear HB; have HO363 := n0_; have HO366 := n1_; have HO370 := n2_; have HO373 := n3_; have HO376 := n4_; have HO380 := n5_; have HB := n6_; clear n0_ n1_ n2_ n3_ n4_ n5_ n6_; (try clear hb); (try clear hb2); (try clear hk); (try clear hi); (try clear ho0)))
      (try simp only [Act.put, List.setIfInBounds_toArray, List.set_cons_zero, List.set_cons_succ])
      go_cut [59] (fun v59 wc => ∃ (kq : Nat) (x59_13 : Bool), v59 = .bool x59_13 ∧ Aside0 (laws_FnExactUprightDays.j0 kq l0 l1 a2 a3 t367 t368 t371 t374 t377 t378 x59_13 = some r) ∧ Aside0 (kq ≤ k) ∧ Aside0 (Kd.R (Kd.int .i64) 2 wc w.heap.size (fun k_ => some k_ ≠ (v379 : Value).ownBlock) v369 t367) ∧ Aside0 (Kd.R (Kd.int .u8) 5 wc w.heap.size (fun _ => True) (.slice Ao22 t371.length co22) t371) ∧ Aside0 (Kd.R k38 38 wc w.heap.size (fun _ => True) (.slice Ao23 t374.length co23) t374) ∧ Aside0 (Kd.R (Kd.int .i64) 2 wc w.heap.size (fun k_ => some k_ ≠ (v369 : Value).ownBlock) v379 t377) ∧ Aside0 (Below w.heap.size w wc))
      case first =>
        have H := HC14.out
        clear HC14
        replace H := Option.bind_eq_some_iff.mp H
        obtain ⟨t381, A250, H⟩ := H
        replace H : (if t381 = true then (laws_FnExactUprightDays.j0 k l0 l1 a2 a3 t367 t368 t371 t374 t377 t378 (t378 != t368)) else (laws_FnExactUprightDays.j0 k l0 l1 a2 a3 t367 t368 t371 t374 t377 t378 true)) = some r := H
        have A25 := Aside0.mk A250
        clear A250
        by_cases c26 : t381 = true
        · subst c26
          have H1 : (laws_FnExactUprightDays.j0 k l0 l1 a2 a3 t367 t368 t371 t374 t377 t378 (t378 != t368)) = some r := by rw [if_pos rfl] at H; exact H
          clear H
          have H := H1
          clear H1
          have H' := Aside0.mk H
          clear H
          obtain ⟨Ao27, co27, eo27⟩ := Kd.R_slice HO380.out
          subst eo27
          obtain ⟨Ao28, co28, eo28⟩ := Kd.R_slice HO370.out
          subst eo28
          go_wp2_with (first | ((with_reducible refine gate_callee (f := 26) rfl ?_); refine goesL_ (some 53) rfl rfl Try.func26 (by kernel_rfl) rfl #[.slice Ao27 t377.length co27, .slice Ao28 t367.length co28] rfl (by (try simp only [List.map_toArray, List.map_cons, List.map_nil]); first | done | rfl | (simp only [List.length_drop, List.length_take]; rfl)) ?_; (with_reducible refine (laws_eqInt64S.calls k _ _ t377 _ _ t367 true _ ?side1 ?side2 ?side3 ?side4 A25.out).mono ?_); (case side1 => repeat (first | exact (Kd.R_reads' HO380.out).2.2 | (with_reducible refine Kd.C_alloc ?_ _) | (with_reducible refine Kd.C_drewN ?_ _) | (with_reducible refine Kd.C_drew ?_))); (case side2 => exact (Kd.R_reads' HO380.out).2.1); (case side3 => repeat (first | exact (Kd.R_reads' HO370.out).2.2 | (with_reducible refine Kd.C_alloc ?_ _) | (with_reducible refine Kd.C_drewN ?_ _) | (with_reducible refine Kd.C_drew ?_))); (case side4 => exact (Kd.R_reads' HO370.out).2.1); rintro e w' ⟨rfl, ⟨nd, rfl⟩⟩; refine ⟨_, rfl, ?_⟩))
          go_meet
          case rel => exact ⟨_, ((t378 != t368)), (by first | rfl | (simp; done) | (simp [*]; done)), H', ⟨by first | omega | exact Nat.le_refl _⟩, ⟨by (with_reducible repeat (first | apply Kd.R_alloc | apply Kd.R_drewN | apply Kd.R_drew)); exact Kd.R_mono HO370.out (fun _ hk => hk.2)⟩, ⟨by (with_reducible repeat (first | apply Kd.R_alloc | apply Kd.R_drewN | apply Kd.R_drew)); exact Kd.R_mono HO373.out (fun _ hk => trivial)⟩, ⟨by (with_reducible repeat (first | apply Kd.R_alloc | apply Kd.R_drewN | apply Kd.R_drew)); exact Kd.R_mono HO376.out (fun _ hk => trivial)⟩, ⟨by (with_reducible repeat (first | apply Kd.R_alloc | apply Kd.R_drewN | apply Kd.R_drew)); exact Kd.R_mono HO380.out (fun _ hk => hk.2)⟩, ⟨by repeat (first | (with_reducible first | exact HB.out | apply below_alloc | apply pw_below_drewN | apply below_drew1) | exact HB.out)⟩⟩
        · replace c26 := Bool.eq_false_iff.mpr c26
          subst c26
          have H1 : (laws_FnExactUprightDays.j0 k l0 l1 a2 a3 t367 t368 t371 t374 t377 t378 true) = some r := by rw [if_neg (show ¬ (false = true) by decide)] at H; exact H
          clear H
          have H := H1
          clear H1
          have H' := Aside0.mk H
          clear H
          obtain ⟨Ao29, co29, eo29⟩ := Kd.R_slice HO380.out
          subst eo29
          obtain ⟨Ao30, co30, eo30⟩ := Kd.R_slice HO370.out
          subst eo30
          go_wp2_with (first | ((with_reducible refine gate_callee (f := 26) rfl ?_); refine goesL_ (some 53) rfl rfl Try.func26 (by kernel_rfl) rfl #[.slice Ao29 t377.length co29, .slice Ao30 t367.length co30] rfl (by (try simp only [List.map_toArray, List.map_cons, List.map_nil]); first | done | rfl | (simp only [List.length_drop, List.length_take]; rfl)) ?_; (with_reducible refine (laws_eqInt64S.calls k _ _ t377 _ _ t367 false _ ?side1 ?side2 ?side3 ?side4 A25.out).mono ?_); (case side1 => repeat (first | exact (Kd.R_reads' HO380.out).2.2 | (with_reducible refine Kd.C_alloc ?_ _) | (with_reducible refine Kd.C_drewN ?_ _) | (with_reducible refine Kd.C_drew ?_))); (case side2 => exact (Kd.R_reads' HO380.out).2.1); (case side3 => repeat (first | exact (Kd.R_reads' HO370.out).2.2 | (with_reducible refine Kd.C_alloc ?_ _) | (with_reducible refine Kd.C_drewN ?_ _) | (with_reducible refine Kd.C_drew ?_))); (case side4 => exact (Kd.R_reads' HO370.out).2.1); rintro e w' ⟨rfl, ⟨nd, rfl⟩⟩; refine ⟨_, rfl, ?_⟩))
          go_meet
          case rel => exact ⟨_, (true), (by first | rfl | (simp; done) | (simp [*]; done)), H', ⟨by first | omega | exact Nat.le_refl _⟩, ⟨by (with_reducible repeat (first | apply Kd.R_alloc | apply Kd.R_drewN | apply Kd.R_drew)); exact Kd.R_mono HO370.out (fun _ hk => hk.2)⟩, ⟨by (with_reducible repeat (first | apply Kd.R_alloc | apply Kd.R_drewN | apply Kd.R_drew)); exact Kd.R_mono HO373.out (fun _ hk => trivial)⟩, ⟨by (with_reducible repeat (first | apply Kd.R_alloc | apply Kd.R_drewN | apply Kd.R_drew)); exact Kd.R_mono HO376.out (fun _ hk => trivial)⟩, ⟨by (with_reducible repeat (first | apply Kd.R_alloc | apply Kd.R_drewN | apply Kd.R_drew)); exact Kd.R_mono HO380.out (fun _ hk => hk.2)⟩, ⟨by repeat (first | (with_reducible first | exact HB.out | apply below_alloc | apply pw_below_drewN | apply below_drew1) | exact HB.out)⟩⟩
      case rest =>
        clear HC14
        try clear c1
        try clear c2
        try clear p2
        try clear c4
        try clear c5
        try clear c5b0
        try clear c5b1
        try clear c7
        try clear c7b0
        try clear c21
        try clear c22
        try clear c23
        try clear c24
        try clear c25
        try clear c26
        obtain ⟨kq, x59_13, rfl, HA, HJ13, HO_10, HO_12, HO_13, HO_14, HB⟩ := hcut
        cases kq with
        | zero => exact absurd HA.out (by simp [laws_FnExactUprightDays.j0])
        | succ kj13 =>
          have H := HA.out
          clear HA
          simp only [laws_FnExactUprightDays.j0] at H
          by_cases c31 : x59_13 = true
          · subst c31
            have H1 : (some false) = some r := by rw [if_pos rfl] at H; exact H
            clear H
            have H := H1
            clear H1
            obtain rfl := Option.some.inj H
            go_wp2
            go_ret
            exact ⟨by first | rfl | (simp [errW_none, errW_some] <;> rfl) | (simp [*, errW_none, errW_some] <;> rfl), by repeat (first | (with_reducible first | exact HB.out | apply below_alloc | apply pw_below_drewN | apply below_drew1) | exact HB.out)⟩
          · replace c31 := Bool.eq_false_iff.mpr c31
            subst c31
            have H1 : ((laws_toRow.f kj13 l0).bind fun t382 => ((laws_eqRow.f kj13 t371 t382).bind fun t385 => (if t385 = true then ((laws_toWalkerS.f kj13 l1).bind fun t386 => ((laws_eqWalkerS.f kj13 t374 t386).bind fun t389 => (if t389 = true then ((laws_markRow.f kj13 t371 1).bind fun bt390 => ((laws_markWalkerS.f kj13 t374 bt390.1).bind fun bt392 => (if bt392.1 < 0 then (laws_FnExactUprightDays.j1 kj13 l0 l1 a2 a3 t367 t368 t377 true) else ((laws_eqInt64S.f kj13 t377 t367).bind fun t394 => (if t394 = true then (laws_FnExactUprightDays.j1 kj13 l0 l1 a2 a3 t367 t368 t377 (t378 != t368)) else (laws_FnExactUprightDays.j1 kj13 l0 l1 a2 a3 t367 t368 t377 true)))))) else (some false)))) else (some false)))) = some r := by rw [if_neg (show ¬ (false = true) by decide)] at H; exact H
            clear H
            have H := H1
            clear H1
            replace H := Option.bind_eq_some_iff.mp H
            obtain ⟨t382, A320, H⟩ := H
            replace H : ((laws_eqRow.f kj13 t371 t382).bind fun t385 => (if t385 = true then ((laws_toWalkerS.f kj13 l1).bind fun t386 => ((laws_eqWalkerS.f kj13 t374 t386).bind fun t389 => (if t389 = true then ((laws_markRow.f kj13 t371 1).bind fun bt390 => ((laws_markWalkerS.f kj13 t374 bt390.1).bind fun bt392 => (if bt392.1 < 0 then (laws_FnExactUprightDays.j1 kj13 l0 l1 a2 a3 t367 t368 t377 true) else ((laws_eqInt64S.f kj13 t377 t367).bind fun t394 => (if t394 = true then (laws_FnExactUprightDays.j1 kj13 l0 l1 a2 a3 t367 t368 t377 (t378 != t368)) else (laws_FnExactUprightDays.j1 kj13 l0 l1 a2 a3 t367 t368 t377 true)))))) else (some false)))) else (some false))) = some r := H
            have A32 := Aside0.mk A320
            clear A320
            replace H := Option.bind_eq_some_iff.mp H
            obtain ⟨t385, A330, H⟩ := H
            replace H : (if t385 = true then ((laws_toWalkerS.f kj13 l1).bind fun t386 => ((laws_eqWalkerS.f kj13 t374 t386).bind fun t389 => (if t389 = true then ((laws_markRow.f kj13 t371 1).bind fun bt390 => ((laws_markWalkerS.f kj13 t374 bt390.1).bind fun bt392 => (if bt392.1 < 0 then (laws_FnExactUprightDays.j1 kj13 l0 l1 a2 a3 t367 t368 t377 true) else ((laws_eqInt64S.f kj13 t377 t367).bind fun t394 => (if t394 = true then (laws_FnExactUprightDays.j1 kj13 l0 l1 a2 a3 t367 t368 t377 (t378 != t368)) else (laws_FnExactUprightDays.j1 kj13 l0 l1 a2 a3 t367 t368 t377 true)))))) else (some false)))) else (some false)) = some r := H
            have A33 := Aside0.mk A330
            clear A330
            by_cases c34 : t385 = true
            · subst c34
              have H1 : ((laws_toWalkerS.f kj13 l1).bind fun t386 => ((laws_eqWalkerS.f kj13 t374 t386).bind fun t389 => (if t389 = true then ((laws_markRow.f kj13 t371 1).bind fun bt390 => ((laws_markWalkerS.f kj13 t374 bt390.1).bind fun bt392 => (if bt392.1 < 0 then (laws_FnExactUprightDays.j1 kj13 l0 l1 a2 a3 t367 t368 t377 true) else ((laws_eqInt64S.f kj13 t377 t367).bind fun t394 => (if t394 = true then (laws_FnExactUprightDays.j1 kj13 l0 l1 a2 a3 t367 t368 t377 (t378 != t368)) else (laws_FnExactUprightDays.j1 kj13 l0 l1 a2 a3 t367 t368 t377 true)))))) else (some false)))) = some r := by rw [if_pos rfl] at H; exact H
              clear H
              have H := H1
              clear H1
              replace H := Option.bind_eq_some_iff.mp H
              obtain ⟨t386, A350, H⟩ := H
              replace H : ((laws_eqWalkerS.f kj13 t374 t386).bind fun t389 => (if t389 = true then ((laws_markRow.f kj13 t371 1).bind fun bt390 => ((laws_markWalkerS.f kj13 t374 bt390.1).bind fun bt392 => (if bt392.1 < 0 then (laws_FnExactUprightDays.j1 kj13 l0 l1 a2 a3 t367 t368 t377 true) else ((laws_eqInt64S.f kj13 t377 t367).bind fun t394 => (if t394 = true then (laws_FnExactUprightDays.j1 kj13 l0 l1 a2 a3 t367 t368 t377 (t378 != t368)) else (laws_FnExactUprightDays.j1 kj13 l0 l1 a2 a3 t367 t368 t377 true)))))) else (some false))) = some r := H
              have A35 := Aside0.mk A350
              clear A350
              replace H := Option.bind_eq_some_iff.mp H
              obtain ⟨t389, A360, H⟩ := H
              replace H : (if t389 = true then ((laws_markRow.f kj13 t371 1).bind fun bt390 => ((laws_markWalkerS.f kj13 t374 bt390.1).bind fun bt392 => (if bt392.1 < 0 then (laws_FnExactUprightDays.j1 kj13 l0 l1 a2 a3 t367 t368 t377 true) else ((laws_eqInt64S.f kj13 t377 t367).bind fun t394 => (if t394 = true then (laws_FnExactUprightDays.j1 kj13 l0 l1 a2 a3 t367 t368 t377 (t378 != t368)) else (laws_FnExactUprightDays.j1 kj13 l0 l1 a2 a3 t367 t368 t377 true)))))) else (some false)) = some r := H
              have A36 := Aside0.mk A360
              clear A360
              by_cases c37 : t389 = true
              · subst c37
                have H1 : ((laws_markRow.f kj13 t371 1).bind fun bt390 => ((laws_markWalkerS.f kj13 t374 bt390.1).bind fun bt392 => (if bt392.1 < 0 then (laws_FnExactUprightDays.j1 kj13 l0 l1 a2 a3 t367 t368 t377 true) else ((laws_eqInt64S.f kj13 t377 t367).bind fun t394 => (if t394 = true then (laws_FnExactUprightDays.j1 kj13 l0 l1 a2 a3 t367 t368 t377 (t378 != t368)) else (laws_FnExactUprightDays.j1 kj13 l0 l1 a2 a3 t367 t368 t377 true)))))) = some r := by rw [if_pos rfl] at H; exact H
                clear H
                have H := H1
                clear H1
                replace H := Option.bind_eq_some_iff.mp H
                obtain ⟨⟨t390, t391⟩, A380, H⟩ := H
                replace H : ((laws_markWalkerS.f kj13 t374 t390).bind fun bt392 => (if bt392.1 < 0 then (laws_FnExactUprightDays.j1 kj13 l0 l1 a2 a3 t367 t368 t377 true) else ((laws_eqInt64S.f kj13 t377 t367).bind fun t394 => (if t394 = true then (laws_FnExactUprightDays.j1 kj13 l0 l1 a2 a3 t367 t368 t377 (t378 != t368)) else (laws_FnExactUprightDays.j1 kj13 l0 l1 a2 a3 t367 t368 t377 true))))) = some r := H
                have A38 := Aside0.mk A380
                clear A380
                replace H := Option.bind_eq_some_iff.mp H
                obtain ⟨⟨t392, t393⟩, A390, H⟩ := H
                replace H : (if t392 < 0 then (laws_FnExactUprightDays.j1 kj13 l0 l1 a2 a3 t367 t368 t377 true) else ((laws_eqInt64S.f kj13 t377 t367).bind fun t394 => (if t394 = true then (laws_FnExactUprightDays.j1 kj13 l0 l1 a2 a3 t367 t368 t377 (t378 != t368)) else (laws_FnExactUprightDays.j1 kj13 l0 l1 a2 a3 t367 t368 t377 true)))) = some r := H
                have A39 := Aside0.mk A390
                clear A390
                have HC40 := Aside0.mk H
                clear H
                go_upto_region 20 with (first | ((with_reducible refine gate_callee (f := 23) rfl ?_); refine goesL_ (some 62) rfl rfl Try.func23 (by kernel_rfl) rfl #[.slice A0 l0.length c0] rfl (by (try simp only [List.map_toArray, List.map_cons, List.map_nil]); first | done | rfl | (simp only [List.length_drop, List.length_take]; rfl)) ?_; (with_reducible refine (laws_toRow.calls kj13 _ _ l0 t382 _ ?side1 ?side2 A32.out).mono ?_); (case side1 => repeat (first | exact (Kd.C_below HR0.out HB.out) | (with_reducible refine Kd.C_alloc ?_ _) | (with_reducible refine Kd.C_drewN ?_ _) | (with_reducible refine Kd.C_drew ?_))); (case side2 => exact HC0.out); rintro e w41 ⟨v383, rfl, ho0, hb⟩; refine ⟨_, rfl, ?_⟩; have n0_ := Aside0.mk (Kd.R_below (by (with_reducible repeat (first | apply Kd.R_alloc | apply Kd.R_drewN | apply Kd.R_drew)); exact HO_10.out) hb); have n1_ := Aside0.mk (Kd.R_elder' (by (with_reducible repeat (first | apply Kd.R_alloc | apply Kd.R_drewN | apply Kd.R_drew)); exact HO_12.out) (Kd.R_base ho0) hb); have n2_ := Aside0.mk (Kd.R_below (by (with_reducible repeat (first | apply Kd.R_alloc | apply Kd.R_drewN | apply Kd.R_drew)); exact HO_13.out) hb); have n3_ := Aside0.mk (Kd.R_below (by (with_reducible repeat (first | apply Kd.R_alloc | apply Kd.R_drewN | apply Kd.R_drew)); exact HO_14.out) hb); have n4_ := Aside0.mk (Kd.R_lower (Kd.R_new' ho0 (Kd.R_lt (by (with_reducible repeat (first | apply Kd.R_alloc | apply Kd.R_drewN | apply Kd.R_drew)); exact HO_12.out))) (below_size (by repeat (first | (with_reducible first | exact HB.out | apply below_alloc | apply pw_below_drewN | apply below_drew1) | exact HB.out)))); have n5_ := Aside0.mk (below_step (by repeat (first | (with_reducible first | exact HB.out | apply below_alloc | apply pw_below_drewN | apply below_drew1) | exact HB.out)) hb); clear HO_10; clear HO_12; clear HO_13; clear HO_14; clear HB; have HO_10 := n0_; have HO_12 := n1_; have HO_13 := n2_; have HO_14 := n3_; have HO384 := n4_; have HB := n5_; clear n0_ n1_ n2_ n3_ n4_ n5_; (try clear hb); (try clear hb2); (try clear hk); (try clear hi); (try clear ho0); obtain ⟨Ao42, co42, eo42⟩ := Kd.R_slice HO384.out; subst eo42) | ((with_reducible refine gate_callee (f := 27) rfl ?_); refine goesL_ (some 63) rfl rfl Try.func27 (by kernel_rfl) rfl #[.slice Ao22 t371.length co22, .slice Ao42 t382.length co42] rfl (by (try simp only [List.map_toArray, List.map_cons, List.map_nil]); first | done | rfl | (simp only [List.length_drop, List.length_take]; rfl)) ?_; (with_reducible refine (laws_eqRow.calls kj13 _ _ t371 _ _ t382 true _ ?side1 ?side2 ?side3 ?side4 A33.out).mono ?_); (case side1 => repeat (first | exact (Kd.R_reads' HO_12.out).2.2 | (with_reducible refine Kd.C_alloc ?_ _) | (with_reducible refine Kd.C_drewN ?_ _) | (with_reducible refine Kd.C_drew ?_))); (case side2 => exact (Kd.R_reads' HO_12.out).2.1); (case side3 => repeat (first | exact (Kd.R_reads' HO384.out).2.2 | (with_reducible refine Kd.C_alloc ?_ _) | (with_reducible refine Kd.C_drewN ?_ _) | (with_reducible refine Kd.C_drew ?_))); (case side4 => exact (Kd.R_reads' HO384.out).2.1); rintro e w' ⟨rfl, ⟨nd, rfl⟩⟩; refine ⟨_, rfl, ?_⟩) | ((with_reducible refine gate_callee (f := 24) rfl ?_); refine goesL_ (some 67) rfl rfl Try.func24 (by kernel_rfl) rfl #[.slice A1 l1.length c1] rfl (by (try simp only [List.map_toArray, List.map_cons, List.map_nil]); first | done | rfl | (simp only [List.length_drop, List.length_take]; rfl)) ?_; (with_reducible refine (laws_toWalkerS.calls kj13 _ _ l1 t386 _ ?side1 ?side2 A35.out).mono ?_); (case side1 => repeat (first | exact (Kd.C_below HR1.out (by repeat (first | (with_reducible first | exact HB.out | apply below_alloc | apply pw_below_drewN | apply below_drew1) | exact HB.out))) | (with_reducible refine Kd.C_alloc ?_ _) | (with_reducible refine Kd.C_drewN ?_ _) | (with_reducible refine Kd.C_drew ?_))); (case side2 => exact HC1.out); rintro e w43 ⟨v387, rfl, ho0, hb⟩; refine ⟨_, rfl, ?_⟩; have n0_ := Aside0.mk (Kd.R_below (by (with_reducible repeat (first | apply Kd.R_alloc | apply Kd.R_drewN | apply Kd.R_drew)); exact HO_10.out) hb); have n1_ := Aside0.mk (Kd.R_below (by (with_reducible repeat (first | apply Kd.R_alloc | apply Kd.R_drewN | apply Kd.R_drew)); exact HO_12.out) hb); have n2_ := Aside0.mk (Kd.R_elder' (by (with_reducible repeat (first | apply Kd.R_alloc | apply Kd.R_drewN | apply Kd.R_drew)); exact HO_13.out) (Kd.R_base ho0) hb); have n3_ := Aside0.mk (Kd.R_below (by (with_reducible repeat (first | apply Kd.R_alloc | apply Kd.R_drewN | apply Kd.R_drew)); exact HO_14.out) hb); have n4_ := Aside0.mk (Kd.R_below (by (with_reducible repeat (first | apply Kd.R_alloc | apply Kd.R_drewN | apply Kd.R_drew)); exact HO384.out) hb); have n5_ := Aside0.mk (Kd.R_lower (Kd.R_new' ho0 (Kd.R_lt (by (with_reducible repeat (first | apply Kd.R_alloc | apply Kd.R_drewN | apply Kd.R_drew)); exact HO_13.out))) (below_size (by repeat (first | (with_reducible first | exact HB.out | apply below_alloc | apply pw_below_drewN | apply below_drew1) | exact HB.out)))); have n6_ := Aside0.mk (below_step (by repeat (first | (with_reducible first | exact HB.out | apply below_alloc | apply pw_below_drewN | apply below_drew1) | exact HB.out)) hb); clear HO_10; clear HO_12; clear HO_13; clear HO_14; clear HO384; clear HB; have HO_10 := n0_; have HO_12 := n1_; have HO_13 := n2_; have HO_14 := n3_; have HO384 := n4_; have HO388 := n5_; have HB := n6_; clear n0_ n1_ n2_ n3_ n4_ n5_ n6_; (try clear hb); (try clear hb2); (try clear hk); (try clear hi); (try clear ho0); obtain ⟨Ao44, co44, eo44⟩ := Kd.R_slice HO388.out; subst eo44) | ((with_reducible refine gate_callee (f := 28) rfl ?_); refine goesL_ (some 68) rfl rfl Try.func28 (by kernel_rfl) rfl #[.slice Ao23 t374.length co23, .slice Ao44 t386.length co44] rfl (by (try simp only [List.map_toArray, List.map_cons, List.map_nil]); first | done | rfl | (simp only [List.length_drop, List.length_take]; rfl)) ?_; (with_reducible refine (laws_eqWalkerS.calls kj13 _ _ t374 _ _ t386 true _ ?side1 ?side2 ?side3 ?side4 A36.out).mono ?_); (case side1 => repeat (first | exact (Kd.R_reads' HO_13.out).2.2 | (with_reducible refine Kd.C_alloc ?_ _) | (with_reducible refine Kd.C_drewN ?_ _) | (with_reducible refine Kd.C_drew ?_))); (case side2 => exact (Kd.R_reads' HO_13.out).2.1); (case side3 => repeat (first | exact (Kd.R_reads' HO388.out).2.2 | (with_reducible refine Kd.C_alloc ?_ _) | (with_reducible refine Kd.C_drewN ?_ _) | (with_reducible refine Kd.C_drew ?_))); (case side4 => exact (Kd.R_reads' HO388.out).2.1); rintro e w45 ⟨rfl, hb⟩; refine ⟨_, rfl, ?_⟩; have n0_ := Aside0.mk (Kd.R_below (by (with_reducible repeat (first | apply Kd.R_alloc | apply Kd.R_drewN | apply Kd.R_drew)); exact HO_10.out) hb); have n1_ := Aside0.mk (Kd.R_below (by (with_reducible repeat (first | apply Kd.R_alloc | apply Kd.R_drewN | apply Kd.R_drew)); exact HO_12.out) hb); have n2_ := Aside0.mk (Kd.R_below (by (with_reducible repeat (first | apply Kd.R_alloc | apply Kd.R_drewN | apply Kd.R_drew)); exact HO_13.out) hb); have n3_ := Aside0.mk (Kd.R_below (by (with_reducible repeat (first | apply Kd.R_alloc | apply Kd.R_drewN | apply Kd.R_drew)); exact HO_14.out) hb); have n4_ := Aside0.mk (Kd.R_below (by (with_reducible repeat (first | apply Kd.R_alloc | apply Kd.R_drewN | apply Kd.R_drew)); exact HO384.out) hb); have n5_ := Aside0.mk (Kd.R_below (by (with_reducible repeat (first | apply Kd.R_alloc | apply Kd.R_drewN | apply Kd.R_drew)); exact HO388.out) hb); have n6_ := Aside0.mk (below_step (by repeat (first | (with_reducible first | exact HB.out | apply below_alloc | apply pw_below_drewN | apply below_drew1) | exact HB.out)) hb); clear HO_10; clear HO_12; clear HO_13; clear HO_14; clear HO384; clear HO388; clear HB; have HO_10 := n0_; have HO_12 := n1_; have HO_13 := n2_; have HO_14 := n3_; have HO384 := n4_; have HO388 := n5_; have HB := n6_; clear n0_ n1_ n2_ n3_ n4_ n5_ n6_; (try clear hb); (try clear hb2); (try clear hk); (try clear hi)) | ((with_reducible refine gate_callee (f := 29) rfl ?_); refine goesL_ (some 72) rfl rfl Try.func29 (by kernel_rfl) rfl #[.slice Ao22 t371.length co22, .int .i64 1] rfl (by (try simp only [List.map_toArray, List.map_cons, List.map_nil]); first | done | rfl | (simp only [List.length_drop, List.length_take]; rfl)) ?_; (with_reducible refine (laws_markRow.calls kj13 (fun k_ => some k_ = (.slice Ao22 t371.length co22 : Value).ownBlock) (.slice Ao22 t371.length co22) t371 1 t390 t391 w _ ?side1 ?side2 A38.out).mono ?_); (case side1 => repeat (first | (with_reducible first | exact HB.out | apply below_alloc | apply pw_below_drewN | apply below_drew1) | exact HB.out)); (case side2 => exact Kd.R_tight rfl HO_12.out); rintro e w46 ⟨rfl, hy0, hb, hkp⟩; refine ⟨_, rfl, ?_⟩; have n0_ := Aside0.mk (Kd.R_mono (ok' := fun k_ => some k_ ≠ (v379 : Value).ownBlock) (Kd.R_keptB ((Kd.R_apart' HO_10.out (Kd.R_typed HO_12.out) (by decide))) hkp (fun k_ hk_ hs_ => (hk_.2) hs_)) (fun k_ hk_ => hk_.1.1)); have n1_ := Aside0.mk (Kd.R_reok rfl hy0 (fun k_ e_ => HO_12.out.1 k_ e_)); have n2_ := Aside0.mk (Kd.R_mono (ok' := fun k_ => some k_ ≠ (.slice Ao44 t386.length co44 : Value).ownBlock) (Kd.R_keptB ((Kd.R_apart' HO_13.out (Kd.R_typed HO_12.out) (by decide))) hkp (fun k_ hk_ hs_ => (hk_.2) hs_)) (fun k_ hk_ => hk_.1.1.2)); have n3_ := Aside0.mk (Kd.R_mono (ok' := fun k_ => some k_ ≠ (v369 : Value).ownBlock) (Kd.R_keptB ((Kd.R_apart' HO_14.out (Kd.R_typed HO_12.out) (by decide))) hkp (fun k_ hk_ hs_ => (hk_.2) hs_)) (fun k_ hk_ => hk_.1.1)); have n4_ := Aside0.mk (Kd.R_mono (ok' := fun k_ => some k_ ≠ (.slice Ao22 t371.length co22 : Value).ownBlock) (Kd.R_keptB (HO384.out) hkp (fun k_ hk_ hs_ => (hk_.2) hs_)) (fun k_ hk_ => hk_.1.2)); have n5_ := Aside0.mk (Kd.R_mono (ok' := fun k_ => some k_ ≠ (.slice Ao23 t374.length co23 : Value).ownBlock) (Kd.R_keptB ((Kd.R_apart' HO388.out (Kd.R_typed HO_12.out) (by decide))) hkp (fun k_ hk_ hs_ => (hk_.2) hs_)) (fun k_ hk_ => hk_.1.1.2)); have n6_ := Aside0.mk (hb); clear HO_10; clear HO_12; clear HO_13; clear HO_14; clear HO384; clear HO388; clear HB; have HO_10 := n0_; have HO_12 := n1_; have HO_13 := n2_; have HO_14 := n3_; have HO384 := n4_; have HO388 := n5_; have HB := n6_; clear n0_ n1_ n2_ n3_ n4_ n5_ n6_; (try clear hb); (try clear hkp); (try clear hy0)) | ((with_reducible refine gate_callee (f := 30) rfl ?_); refine goesL_ (some 75) rfl rfl Try.func30 (by kernel_rfl) rfl #[.slice Ao23 t374.length co23, .int .i64 t390] rfl (by (try simp only [List.map_toArray, List.map_cons, List.map_nil]); first | done | rfl | (simp only [List.length_drop, List.length_take]; rfl)) ?_; (with_reducible refine (laws_markWalkerS.calls kj13 (fun k_ => some k_ = (.slice Ao23 t374.length co23 : Value).ownBlock) (.slice Ao23 t374.length co23) t374 t390 t392 t393 w _ ?side1 ?side2 A39.out).mono ?_); (case side1 => repeat (first | (with_reducible first | exact HB.out | apply below_alloc | apply pw_below_drewN | apply below_drew1) | exact HB.out)); (case side2 => exact Kd.R_tight rfl HO_13.out); rintro e w47 ⟨rfl, hy0, hb, hkp⟩; refine ⟨_, rfl, ?_⟩; have n0_ := Aside0.mk (Kd.R_mono (ok' := fun k_ => some k_ ≠ (v379 : Value).ownBlock) (Kd.R_keptB ((Kd.R_apart' HO_10.out (Kd.R_typed HO_13.out) (by decide))) hkp (fun k_ hk_ hs_ => (hk_.2) hs_)) (fun k_ hk_ => hk_.1.1)); have n1_ := Aside0.mk (Kd.R_mono (ok' := fun k_ => some k_ ≠ (.slice Ao42 t382.length co42 : Value).ownBlock) (Kd.R_keptB ((Kd.R_apart' HO_12.out (Kd.R_typed HO_13.out) (by decide))) hkp (fun k_ hk_ hs_ => (hk_.2) hs_)) (fun k_ hk_ => hk_.1.1.2)); have n2_ := Aside0.mk (Kd.R_reok rfl hy0 (fun k_ e_ => HO_13.out.1 k_ e_)); have n3_ := Aside0.mk (Kd.R_mono (ok' := fun k_ => some k_ ≠ (v369 : Value).ownBlock) (Kd.R_keptB ((Kd.R_apart' HO_14.out (Kd.R_typed HO_13.out) (by decide))) hkp (fun k_ hk_ hs_ => (hk_.2) hs_)) (fun k_ hk_ => hk_.1.1)); have n4_ := Aside0.mk (Kd.R_mono (ok' := fun k_ => some k_ ≠ (.slice Ao22 t371.length co22 : Value).ownBlock) (Kd.R_keptB ((Kd.R_apart' HO384.out (Kd.R_typed HO_13.out) (by decide))) hkp (fun k_ hk_ hs_ => (hk_.2) hs_)) (fun k_ hk_ => hk_.1.1)); have n5_ := Aside0.mk (Kd.R_mono (ok' := fun k_ => some k_ ≠ (.slice Ao23 t374.length co23 : Value).ownBlock) (Kd.R_keptB (HO388.out) hkp (fun k_ hk_ hs_ => (hk_) hs_)) (fun k_ hk_ => hk_.1)); have n6_ := Aside0.mk (hb); clear HO_10; clear HO_12; clear HO_13; clear HO_14; clear HO384; clear HO388; clear HB; have HO_10 := n0_; have HO_12 := n1_; have HO_13 := n2_; have HO_14 := n3_; have HO384 := n4_; have HO388 := n5_; have HB := n6_; clear n0_ n1_ n2_ n3_ n4_ n5_ n6_; (try clear hb); (try clear hkp); (try clear hy0)))
                (try simp only [Act.put, List.setIfInBounds_toArray, List.set_cons_zero, List.set_cons_succ])
                go_cut [88] (fun v88 wc => ∃ (kq : Nat) (x88_39 : Bool), v88 = .bool x88_39 ∧ Aside0 (laws_FnExactUprightDays.j1 kq l0 l1 a2 a3 t367 t368 t377 x88_39 = some r) ∧ Aside0 (kq ≤ kj13) ∧ Aside0 (Kd.R (Kd.int .i64) 2 wc w.heap.size (fun k_ => some k_ ≠ (v379 : Value).ownBlock) v369 t367) ∧ Aside0 (Kd.R (Kd.int .i64) 2 wc w.heap.size (fun k_ => some k_ ≠ (v369 : Value).ownBlock) v379 t377) ∧ Aside0 (Below w.heap.size w wc))
                case first =>
                  have H := HC40.out
                  clear HC40
                  by_cases c48 : t392 < 0
                  · rw [if_pos c48] at H
                    have c48b0 : decide (t392 < 0) = true := decide_eq_true c48
                    clear c48
                    (first | rw [c48b0] | (simp only [i64_w, i32_w]; rw [c48b0]) | skip)
                    have H' := Aside0.mk H
                    clear H
                    go_wp2
                    go_meet
                    case rel => exact ⟨_, (true), (by first | rfl | (simp; done) | (simp [*]; done)), H', ⟨by have := HJ13.out; first | omega | exact Nat.le_refl _⟩, ⟨by (with_reducible repeat (first | apply Kd.R_alloc | apply Kd.R_drewN | apply Kd.R_drew)); exact HO_10.out⟩, ⟨by (with_reducible repeat (first | apply Kd.R_alloc | apply Kd.R_drewN | apply Kd.R_drew)); exact HO_14.out⟩, ⟨by repeat (first | (with_reducible first | exact HB.out | apply below_alloc | apply pw_below_drewN | apply below_drew1) | exact HB.out)⟩⟩
                  · rw [if_neg c48] at H
                    have c48b0 : decide (t392 < 0) = false := decide_eq_false c48
                    clear c48
                    (first | rw [c48b0] | (simp only [i64_w, i32_w]; rw [c48b0]) | skip)
                    replace H := Option.bind_eq_some_iff.mp H
                    obtain ⟨t394, A490, H⟩ := H
                    replace H : (if t394 = true then (laws_FnExactUprightDays.j1 kj13 l0 l1 a2 a3 t367 t368 t377 (t378 != t368)) else (laws_FnExactUprightDays.j1 kj13 l0 l1 a2 a3 t367 t368 t377 true)) = some r := H
                    have A49 := Aside0.mk A490
                    clear A490
                    by_cases c50 : t394 = true
                    · subst c50
                      have H1 : (laws_FnExactUprightDays.j1 kj13 l0 l1 a2 a3 t367 t368 t377 (t378 != t368)) = some r := by rw [if_pos rfl] at H; exact H
                      clear H
                      have H := H1
                      clear H1
                      have H' := Aside0.mk H
                      clear H
                      obtain ⟨Ao51, co51, eo51⟩ := Kd.R_slice HO_14.out
                      subst eo51
                      obtain ⟨Ao52, co52, eo52⟩ := Kd.R_slice HO_10.out
                      subst eo52
                      go_wp2_with (first | (go_at_call 26; (with_reducible refine (laws_eqInt64S.calls kj13 _ _ t377 _ _ t367 true _ ?side1 ?side2 ?side3 ?side4 A49.out).mono ?_); (case side1 => repeat (first | exact (Kd.R_reads' HO_14.out).2.2 | (with_reducible refine Kd.C_alloc ?_ _) | (with_reducible refine Kd.C_drewN ?_ _) | (with_reducible refine Kd.C_drew ?_))); (case side2 => exact (Kd.R_reads' HO_14.out).2.1); (case side3 => repeat (first | exact (Kd.R_reads' HO_10.out).2.2 | (with_reducible refine Kd.C_alloc ?_ _) | (with_reducible refine Kd.C_drewN ?_ _) | (with_reducible refine Kd.C_drew ?_))); (case side4 => exact (Kd.R_reads' HO_10.out).2.1); rintro e w' ⟨rfl, ⟨nd, rfl⟩⟩))
                      go_meet
                      case rel => exact ⟨_, ((t378 != t368)), (by first | rfl | (simp; done) | (simp [*]; done)), H', ⟨by have := HJ13.out; first | omega | exact Nat.le_refl _⟩, ⟨by (with_reducible repeat (first | apply Kd.R_alloc | apply Kd.R_drewN | apply Kd.R_drew)); exact HO_10.out⟩, ⟨by (with_reducible repeat (first | apply Kd.R_alloc | apply Kd.R_drewN | apply Kd.R_drew)); exact HO_14.out⟩, ⟨by repeat (first | (with_reducible first | exact HB.out | apply below_alloc | apply pw_below_drewN | apply below_drew1) | exact HB.out)⟩⟩
                    · replace c50 := Bool.eq_false_iff.mpr c50
                      subst c50
                      have H1 : (laws_FnExactUprightDays.j1 kj13 l0 l1 a2 a3 t367 t368 t377 true) = some r := by rw [if_neg (show ¬ (false = true) by decide)] at H; exact H
                      clear H
                      have H := H1
                      clear H1
                      have H' := Aside0.mk H
                      clear H
                      obtain ⟨Ao53, co53, eo53⟩ := Kd.R_slice HO_14.out
                      subst eo53
                      obtain ⟨Ao54, co54, eo54⟩ := Kd.R_slice HO_10.out
                      subst eo54
                      go_wp2_with (first | (go_at_call 26; (with_reducible refine (laws_eqInt64S.calls kj13 _ _ t377 _ _ t367 false _ ?side1 ?side2 ?side3 ?side4 A49.out).mono ?_); (case side1 => repeat (first | exact (Kd.R_reads' HO_14.out).2.2 | (with_reducible refine Kd.C_alloc ?_ _) | (with_reducible refine Kd.C_drewN ?_ _) | (with_reducible refine Kd.C_drew ?_))); (case side2 => exact (Kd.R_reads' HO_14.out).2.1); (case side3 => repeat (first | exact (Kd.R_reads' HO_10.out).2.2 | (with_reducible refine Kd.C_alloc ?_ _) | (with_reducible refine Kd.C_drewN ?_ _) | (with_reducible refine Kd.C_drew ?_))); (case side4 => exact (Kd.R_reads' HO_10.out).2.1); rintro e w' ⟨rfl, ⟨nd, rfl⟩⟩))
                      go_meet
                      case rel => exact ⟨_, (true), (by first | rfl | (simp; done) | (simp [*]; done)), H', ⟨by have := HJ13.out; first | omega | exact Nat.le_refl _⟩, ⟨by (with_reducible repeat (first | apply Kd.R_alloc | apply Kd.R_drewN | apply Kd.R_drew)); exact HO_10.out⟩, ⟨by (with_reducible repeat (first | apply Kd.R_alloc | apply Kd.R_drewN | apply Kd.R_drew)); exact HO_14.out⟩, ⟨by repeat (first | (with_reducible first | exact HB.out | apply below_alloc | apply pw_below_drewN | apply below_drew1) | exact HB.out)⟩⟩
                case rest =>
                  clear HC40
                  try clear c1
                  try clear c2
                  try clear p2
                  try clear c3
                  try clear c4
                  try clear c5
                  try clear c5b0
                  try clear c5b1
                  try clear c7
                  try clear c7b0
                  try clear c21
                  try clear c22
                  try clear c23
                  try clear c24
                  try clear c25
                  try clear c26
                  try clear c27
                  try clear c28
                  try clear c29
                  try clear c30
                  try clear c31
                  try clear c34
                  try clear c37
                  try clear c48
                  try clear c48b0
                  try clear c50
                  try clear p2
                  obtain ⟨kq, x88_39, rfl, HA, HJ39, HO_10, HO_14, HB⟩ := hcut
                  cases kq with
                  | zero => exact absurd HA.out (by simp [laws_FnExactUprightDays.j1])
                  | succ kj39 =>
                    have H := HA.out
                    clear HA
                    simp only [laws_FnExactUprightDays.j1] at H
                    by_cases c55 : x88_39 = true
                    · subst c55
                      have H1 : (some false) = some r := by rw [if_pos rfl] at H; exact H
                      clear H
                      have H := H1
                      clear H1
                      obtain rfl := Option.some.inj H
                      go_wp2
                      go_ret
                      exact ⟨by first | rfl | (simp [errW_none, errW_some] <;> rfl) | (simp [*, errW_none, errW_some] <;> rfl), by repeat (first | (with_reducible first | exact HB.out | apply below_alloc | apply pw_below_drewN | apply below_drew1) | exact HB.out)⟩
                    · replace c55 := Bool.eq_false_iff.mpr c55
                      subst c55
                      have H1 : ((laws_markInt64S.f kj39 t377 1).bind fun bt395 => ((laws_heldInt64S.f kj39 bt395.2 1).bind fun t397 => (if t397 < 0 then (some false) else (if t397 = bt395.1 then ((laws_toRow.f kj39 l0).bind fun t398 => ((laws_toWalkerS.f kj39 l1).bind fun t401 => ((impl_UprightDays.f kj39 t398 t401 a2 a3).bind fun bt404 => ((laws_eqInt64S.f kj39 bt404.1 t367).bind fun t408 => (if t408 = true then (laws_FnExactUprightDays.j2 kj39 bt395.2 bt395.1 (bt404.2 != t368)) else (laws_FnExactUprightDays.j2 kj39 bt395.2 bt395.1 true)))))) else (some false))))) = some r := by rw [if_neg (show ¬ (false = true) by decide)] at H; exact H
                      clear H
                      have H := H1
                      clear H1
                      replace H := Option.bind_eq_some_iff.mp H
                      obtain ⟨⟨t395, t396⟩, A560, H⟩ := H
                      replace H : ((laws_heldInt64S.f kj39 t396 1).bind fun t397 => (if t397 < 0 then (some false) else (if t397 = t395 then ((laws_toRow.f kj39 l0).bind fun t398 => ((laws_toWalkerS.f kj39 l1).bind fun t401 => ((impl_UprightDays.f kj39 t398 t401 a2 a3).bind fun bt404 => ((laws_eqInt64S.f kj39 bt404.1 t367).bind fun t408 => (if t408 = true then (laws_FnExactUprightDays.j2 kj39 t396 t395 (bt404.2 != t368)) else (laws_FnExactUprightDays.j2 kj39 t396 t395 true)))))) else (some false)))) = some r := H
                      have A56 := Aside0.mk A560
                      clear A560
                      replace H := Option.bind_eq_some_iff.mp H
                      obtain ⟨t397, A570, H⟩ := H
                      replace H : (if t397 < 0 then (some false) else (if t397 = t395 then ((laws_toRow.f kj39 l0).bind fun t398 => ((laws_toWalkerS.f kj39 l1).bind fun t401 => ((impl_UprightDays.f kj39 t398 t401 a2 a3).bind fun bt404 => ((laws_eqInt64S.f kj39 bt404.1 t367).bind fun t408 => (if t408 = true then (laws_FnExactUprightDays.j2 kj39 t396 t395 (bt404.2 != t368)) else (laws_FnExactUprightDays.j2 kj39 t396 t395 true)))))) else (some false))) = some r := H
                      have A57 := Aside0.mk A570
                      clear A570
                      by_cases c58 : t397 < 0
                      · rw [if_pos c58] at H
                        have c58b0 : decide (t397 < 0) = true := decide_eq_true c58
                        clear c58
                        obtain rfl := Option.some.inj H
                        obtain ⟨Ao59, co59, eo59⟩ := Kd.R_slice HO_14.out
                        subst eo59
                        go_wp2_with (first | ((with_reducible refine gate_callee (f := 31) rfl ?_); refine goesL_ (some 91) rfl rfl Try.func31 (by kernel_rfl) rfl #[.slice Ao59 t377.length co59, .int .i64 1] rfl (by (try simp only [List.map_toArray, List.map_cons, List.map_nil]); first | done | rfl | (simp only [List.length_drop, List.length_take]; rfl)) ?_; (with_reducible refine (laws_markInt64S.calls kj39 (fun k_ => some k_ = (.slice Ao59 t377.length co59 : Value).ownBlock) (.slice Ao59 t377.length co59) t377 1 t395 t396 w _ ?side1 ?side2 A56.out).mono ?_); (case side1 => repeat (first | (with_reducible first | exact HB.out | apply below_alloc | apply pw_below_drewN | apply below_drew1) | exact HB.out)); (case side2 => exact Kd.R_tight rfl HO_14.out); rintro e w60 ⟨rfl, hy0, hb, hkp⟩; refine ⟨_, rfl, ?_⟩; have n0_ := Aside0.mk (Kd.R_mono (ok' := fun k_ => some k_ ≠ (.slice Ao59 t377.length co59 : Value).ownBlock) (Kd.R_keptB (HO_10.out) hkp (fun k_ hk_ hs_ => (hk_) hs_)) (fun k_ hk_ => hk_.1)); have n1_ := Aside0.mk (Kd.R_reok rfl hy0 (fun k_ e_ => HO_14.out.1 k_ e_)); have n2_ := Aside0.mk (hb); clear HO_10; clear HO_14; clear HB; have HO_10 := n0_; have HO_14 := n1_; have HB := n2_; clear n0_ n1_ n2_; (try clear hb); (try clear hkp); (try clear hy0)) | ((with_reducible refine gate_callee (f := 32) rfl ?_); refine goesL_ (some 94) rfl rfl Try.func32 (by kernel_rfl) rfl #[.slice Ao59 t396.length co59, .int .i64 1] rfl (by (try simp only [List.map_toArray, List.map_cons, List.map_nil]); first | done | (rw [show t396.length = t377.length from (Kd.R_reads' HO_14.out).1.symm] <;> rfl) | rfl | (simp only [List.length_drop, List.length_take]; rfl)) ?_; (with_reducible refine (laws_heldInt64S.calls kj39 _ _ t396 1 t397 _ ?side1 ?side2 A57.out).mono ?_); (case side1 => repeat (first | exact (Kd.R_reads' HO_14.out).2.2 | (with_reducible refine Kd.C_alloc ?_ _) | (with_reducible refine Kd.C_drewN ?_ _) | (with_reducible refine Kd.C_drew ?_))); (case side2 => rw [show t396.length = t377.length from (Kd.R_reads' HO_14.out).1.symm]; exact (Kd.R_reads' HO_14.out).2.1); rintro e w' ⟨rfl, ⟨nd, rfl⟩⟩; refine ⟨_, rfl, ?_⟩))
                        go_ret
                        exact ⟨by first | rfl | (simp [errW_none, errW_some] <;> rfl) | (simp [*, errW_none, errW_some] <;> rfl), by repeat (first | (with_reducible first | exact HB.out | apply below_alloc | apply pw_below_drewN | apply below_drew1) | exact HB.out)⟩
                      · rw [if_neg c58] at H
                        have c58b0 : decide (t397 < 0) = false := decide_eq_false c58
                        clear c58
                        by_cases c61 : t397 = t395
                        · rw [if_pos c61] at H
                          have c61b0 : (t397 == t395) = true := beq_iff_eq.mpr c61
                          have c61b1 : (t397 != t395) = false := bne_eq_false_iff_eq.mpr c61
                          clear c61
                          replace H := Option.bind_eq_some_iff.mp H
                          obtain ⟨t398, A620, H⟩ := H
                          replace H : ((laws_toWalkerS.f kj39 l1).bind fun t401 => ((impl_UprightDays.f kj39 t398 t401 a2 a3).bind fun bt404 => ((laws_eqInt64S.f kj39 bt404.1 t367).bind fun t408 => (if t408 = true then (laws_FnExactUprightDays.j2 kj39 t396 t395 (bt404.2 != t368)) else (laws_FnExactUprightDays.j2 kj39 t396 t395 true))))) = some r := H
                          have A62 := Aside0.mk A620
                          clear A620
                          replace H := Option.bind_eq_some_iff.mp H
                          obtain ⟨t401, A630, H⟩ := H
                          replace H : ((impl_UprightDays.f kj39 t398 t401 a2 a3).bind fun bt404 => ((laws_eqInt64S.f kj39 bt404.1 t367).bind fun t408 => (if t408 = true then (laws_FnExactUprightDays.j2 kj39 t396 t395 (bt404.2 != t368)) else (laws_FnExactUprightDays.j2 kj39 t396 t395 true)))) = some r := H
                          have A63 := Aside0.mk A630
                          clear A630
                          replace H := Option.bind_eq_some_iff.mp H
                          obtain ⟨⟨t404, t405⟩, A640, H⟩ := H
                          replace H : ((laws_eqInt64S.f kj39 t404 t367).bind fun t408 => (if t408 = true then (laws_FnExactUprightDays.j2 kj39 t396 t395 (t405 != t368)) else (laws_FnExactUprightDays.j2 kj39 t396 t395 true))) = some r := H
                          have A64 := Aside0.mk A640
                          clear A640
                          have HC65 := Aside0.mk H
                          clear H
                          obtain ⟨Ao66, co66, eo66⟩ := Kd.R_slice HO_14.out
                          subst eo66
                          go_upto_region 31 with (first | ((with_reducible refine gate_callee (f := 31) rfl ?_); refine goesL_ (some 91) rfl rfl Try.func31 (by kernel_rfl) rfl #[.slice Ao66 t377.length co66, .int .i64 1] rfl (by (try simp only [List.map_toArray, List.map_cons, List.map_nil]); first | done | rfl | (simp only [List.length_drop, List.length_take]; rfl)) ?_; (with_reducible refine (laws_markInt64S.calls kj39 (fun k_ => some k_ = (.slice Ao66 t377.length co66 : Value).ownBlock) (.slice Ao66 t377.length co66) t377 1 t395 t396 w _ ?side1 ?side2 A56.out).mono ?_); (case side1 => repeat (first | (with_reducible first | exact HB.out | apply below_alloc | apply pw_below_drewN | apply below_drew1) | exact HB.out)); (case side2 => exact Kd.R_tight rfl HO_14.out); rintro e w67 ⟨rfl, hy0, hb, hkp⟩; refine ⟨_, rfl, ?_⟩; have n0_ := Aside0.mk (Kd.R_mono (ok' := fun k_ => some k_ ≠ (.slice Ao66 t377.length co66 : Value).ownBlock) (Kd.R_keptB (HO_10.out) hkp (fun k_ hk_ hs_ => (hk_) hs_)) (fun k_ hk_ => hk_.1)); have n1_ := Aside0.mk (Kd.R_reok rfl hy0 (fun k_ e_ => HO_14.out.1 k_ e_)); have n2_ := Aside0.mk (hb); clear HO_10; clear HO_14; clear HB; have HO_10 := n0_; have HO_14 := n1_; have HB := n2_; clear n0_ n1_ n2_; (try clear hb); (try clear hkp); (try clear hy0)) | ((with_reducible refine gate_callee (f := 32) rfl ?_); refine goesL_ (some 94) rfl rfl Try.func32 (by kernel_rfl) rfl #[.slice Ao66 t396.length co66, .int .i64 1] rfl (by (try simp only [List.map_toArray, List.map_cons, List.map_nil]); first | done | (rw [show t396.length = t377.length from (Kd.R_reads' HO_14.out).1.symm] <;> rfl) | rfl | (simp only [List.length_drop, List.length_take]; rfl)) ?_; (with_reducible refine (laws_heldInt64S.calls kj39 _ _ t396 1 t397 _ ?side1 ?side2 A57.out).mono ?_); (case side1 => repeat (first | exact (Kd.R_reads' HO_14.out).2.2 | (with_reducible refine Kd.C_alloc ?_ _) | (with_reducible refine Kd.C_drewN ?_ _) | (with_reducible refine Kd.C_drew ?_))); (case side2 => rw [show t396.length = t377.length from (Kd.R_reads' HO_14.out).1.symm]; exact (Kd.R_reads' HO_14.out).2.1); rintro e w' ⟨rfl, ⟨nd, rfl⟩⟩; refine ⟨_, rfl, ?_⟩) | ((with_reducible refine gate_callee (f := 23) rfl ?_); refine goesL_ (some 102) rfl rfl Try.func23 (by kernel_rfl) rfl #[.slice A0 l0.length c0] rfl (by (try simp only [List.map_toArray, List.map_cons, List.map_nil]); first | done | rfl | (simp only [List.length_drop, List.length_take]; rfl)) ?_; (with_reducible refine (laws_toRow.calls kj39 _ _ l0 t398 _ ?side1 ?side2 A62.out).mono ?_); (case side1 => repeat (first | exact (Kd.C_below HR0.out (by repeat (first | (with_reducible first | exact HB.out | apply below_alloc | apply pw_below_drewN | apply below_drew1) | exact HB.out))) | (with_reducible refine Kd.C_alloc ?_ _) | (with_reducible refine Kd.C_drewN ?_ _) | (with_reducible refine Kd.C_drew ?_))); (case side2 => exact HC0.out); rintro e w68 ⟨v399, rfl, ho0, hb⟩; refine ⟨_, rfl, ?_⟩; have n0_ := Aside0.mk (Kd.R_below (by (with_reducible repeat (first | apply Kd.R_alloc | apply Kd.R_drewN | apply Kd.R_drew)); exact HO_10.out) hb); have n1_ := Aside0.mk (Kd.R_below (by (with_reducible repeat (first | apply Kd.R_alloc | apply Kd.R_drewN | apply Kd.R_drew)); exact HO_14.out) hb); have n2_ := Aside0.mk (Kd.R_lower ho0 (below_size (by repeat (first | (with_reducible first | exact HB.out | apply below_alloc | apply pw_below_drewN | apply below_drew1) | exact HB.out)))); have n3_ := Aside0.mk (below_step (by repeat (first | (with_reducible first | exact HB.out | apply below_alloc | apply pw_below_drewN | apply below_drew1) | exact HB.out)) hb); clear HO_10; clear HO_14; clear HB; have HO_10 := n0_; have HO_14 := n1_; have HO400 := n2_; have HB := n3_; clear n0_ n1_ n2_ n3_; (try clear hb); (try clear hb2); (try clear hk); (try clear hi); (try clear ho0)) | ((with_reducible refine gate_callee (f := 24) rfl ?_); refine goesL_ (some 104) rfl rfl Try.func24 (by kernel_rfl) rfl #[.slice A1 l1.length c1] rfl (by (try simp only [List.map_toArray, List.map_cons, List.map_nil]); first | done | rfl | (simp only [List.length_drop, List.length_take]; rfl)) ?_; (with_reducible refine (laws_toWalkerS.calls kj39 _ _ l1 t401 _ ?side1 ?side2 A63.out).mono ?_); (case side1 => repeat (first | exact (Kd.C_below HR1.out HB.out) | (with_reducible refine Kd.C_alloc ?_ _) | (with_reducible refine Kd.C_drewN ?_ _) | (with_reducible refine Kd.C_drew ?_))); (case side2 => exact HC1.out); rintro e w69 ⟨v402, rfl, ho0, hb⟩; refine ⟨_, rfl, ?_⟩; have n0_ := Aside0.mk (Kd.R_below (by (with_reducible repeat (first | apply Kd.R_alloc | apply Kd.R_drewN | apply Kd.R_drew)); exact HO_10.out) hb); have n1_ := Aside0.mk (Kd.R_below (by (with_reducible repeat (first | apply Kd.R_alloc | apply Kd.R_drewN | apply Kd.R_drew)); exact HO_14.out) hb); have n2_ := Aside0.mk (Kd.R_below (by (with_reducible repeat (first | apply Kd.R_alloc | apply Kd.R_drewN | apply Kd.R_drew)); exact HO400.out) hb); have n3_ := Aside0.mk (Kd.R_lower ho0 (below_size (by repeat (first | (with_reducible first | exact HB.out | apply below_alloc | apply pw_below_drewN | apply below_drew1) | exact HB.out)))); have n4_ := Aside0.mk (below_step (by repeat (first | (with_reducible first | exact HB.out | apply below_alloc | apply pw_below_drewN | apply below_drew1) | exact HB.out)) hb); clear HO_10; clear HO_14; clear HO400; clear HB; have HO_10 := n0_; have HO_14 := n1_; have HO400 := n2_; have HO403 := n3_; have HB := n4_; clear n0_ n1_ n2_ n3_ n4_; (try clear hb); (try clear hb2); (try clear hk); (try clear hi); (try clear ho0); obtain ⟨Ao70, co70, eo70⟩ := Kd.R_slice HO400.out; subst eo70; obtain ⟨Ao71, co71, eo71⟩ := Kd.R_slice HO403.out; subst eo71) | ((with_reducible refine gate_callee (f := 25) rfl ?_); refine goesL_ (some 107) rfl rfl Try.func25 (by kernel_rfl) rfl #[.slice Ao70 t398.length co70, .slice Ao71 t401.length co71, .int .i64 a2, .int .i64 a3] rfl (by (try simp only [List.map_toArray, List.map_cons, List.map_nil]); first | done | rfl | (simp only [List.length_drop, List.length_take]; rfl)) ?_; (with_reducible refine (impl_UprightDays.calls kj39 _ _ t398 _ _ t401 a2 a3 t404 t405 _ ?side1 ?side2 ?side3 ?side4 A64.out).mono ?_); (case side1 => repeat (first | exact (Kd.R_reads' HO400.out).2.2 | (with_reducible refine Kd.C_alloc ?_ _) | (with_reducible refine Kd.C_drewN ?_ _) | (with_reducible refine Kd.C_drew ?_))); (case side2 => exact (Kd.R_reads' HO400.out).2.1); (case side3 => repeat (first | exact (Kd.R_reads' HO403.out).2.2 | (with_reducible refine Kd.C_alloc ?_ _) | (with_reducible refine Kd.C_drewN ?_ _) | (with_reducible refine Kd.C_drew ?_))); (case side4 => exact (Kd.R_reads' HO403.out).2.1); rintro e w72 ⟨v406, rfl, ho0, hb⟩; refine ⟨_, rfl, ?_⟩; have n0_ := Aside0.mk (Kd.R_elder' (by (with_reducible repeat (first | apply Kd.R_alloc | apply Kd.R_drewN | apply Kd.R_drew)); exact HO_10.out) (Kd.R_base ho0) hb); have n1_ := Aside0.mk (Kd.R_elder' (by (with_reducible repeat (first | apply Kd.R_alloc | apply Kd.R_drewN | apply Kd.R_drew)); exact HO_14.out) (Kd.R_base ho0) hb); have n2_ := Aside0.mk (Kd.R_below (by (with_reducible repeat (first | apply Kd.R_alloc | apply Kd.R_drewN | apply Kd.R_drew)); exact HO400.out) hb); have n3_ := Aside0.mk (Kd.R_below (by (with_reducible repeat (first | apply Kd.R_alloc | apply Kd.R_drewN | apply Kd.R_drew)); exact HO403.out) hb); have n4_ := Aside0.mk (Kd.R_lower (Kd.R_new' (Kd.R_new' ho0 (Kd.R_lt (by (with_reducible repeat (first | apply Kd.R_alloc | apply Kd.R_drewN | apply Kd.R_drew)); exact HO_10.out))) (Kd.R_lt (by (with_reducible repeat (first | apply Kd.R_alloc | apply Kd.R_drewN | apply Kd.R_drew)); exact HO_14.out))) (below_size (by repeat (first | (with_reducible first | exact HB.out | apply below_alloc | apply pw_below_drewN | apply below_drew1) | exact HB.out)))); have n5_ := Aside0.mk (below_step (by repeat (first | (with_reducible first | exact HB.out | apply below_alloc | apply pw_below_drewN | apply below_drew1) | exact HB.out)) hb); clear HO_10; clear HO_14; clear HO400; clear HO403; clear HB; have HO_10 := n0_; have HO_14 := n1_; have HO400 := n2_; have HO403 := n3_; have HO407 := n4_; have HB := n5_; clear n0_ n1_ n2_ n3_ n4_ n5_; (try clear hb); (try clear hb2); (try clear hk); (try clear hi); (try clear ho0)))
                          (try simp only [Act.put, List.setIfInBounds_toArray, List.set_cons_zero, List.set_cons_succ])
                          go_cut [118] (fun v118 wc => ∃ (kq : Nat) (x118_64 : Bool), v118 = .bool x118_64 ∧ Aside0 (laws_FnExactUprightDays.j2 kq t396 t395 x118_64 = some r) ∧ Aside0 (kq ≤ kj39) ∧ Aside0 (Kd.R (Kd.int .i64) 2 wc w.heap.size (fun _ => True) (.slice Ao66 t377.length co66) t396) ∧ Aside0 (Below w.heap.size w wc))
                          case first =>
                            have H := HC65.out
                            clear HC65
                            replace H := Option.bind_eq_some_iff.mp H
                            obtain ⟨t408, A730, H⟩ := H
                            replace H : (if t408 = true then (laws_FnExactUprightDays.j2 kj39 t396 t395 (t405 != t368)) else (laws_FnExactUprightDays.j2 kj39 t396 t395 true)) = some r := H
                            have A73 := Aside0.mk A730
                            clear A730
                            by_cases c74 : t408 = true
                            · subst c74
                              have H1 : (laws_FnExactUprightDays.j2 kj39 t396 t395 (t405 != t368)) = some r := by rw [if_pos rfl] at H; exact H
                              clear H
                              have H := H1
                              clear H1
                              have H' := Aside0.mk H
                              clear H
                              obtain ⟨Ao75, co75, eo75⟩ := Kd.R_slice HO407.out
                              subst eo75
                              obtain ⟨Ao76, co76, eo76⟩ := Kd.R_slice HO_10.out
                              subst eo76
                              go_wp2_with (first | ((with_reducible refine gate_callee (f := 26) rfl ?_); refine goesL_ (some 112) rfl rfl Try.func26 (by kernel_rfl) rfl #[.slice Ao75 t404.length co75, .slice Ao76 t367.length co76] rfl (by (try simp only [List.map_toArray, List.map_cons, List.map_nil]); first | done | rfl | (simp only [List.length_drop, List.length_take]; rfl)) ?_; (with_reducible refine (laws_eqInt64S.calls kj39 _ _ t404 _ _ t367 true _ ?side1 ?side2 ?side3 ?side4 A73.out).mono ?_); (case side1 => repeat (first | exact (Kd.R_reads' HO407.out).2.2 | (with_reducible refine Kd.C_alloc ?_ _) | (with_reducible refine Kd.C_drewN ?_ _) | (with_reducible refine Kd.C_drew ?_))); (case side2 => exact (Kd.R_reads' HO407.out).2.1); (case side3 => repeat (first | exact (Kd.R_reads' HO_10.out).2.2 | (with_reducible refine Kd.C_alloc ?_ _) | (with_reducible refine Kd.C_drewN ?_ _) | (with_reducible refine Kd.C_drew ?_))); (case side4 => exact (Kd.R_reads' HO_10.out).2.1); rintro e w' ⟨rfl, ⟨nd, rfl⟩⟩; refine ⟨_, rfl, ?_⟩))
                              go_meet
                              case rel => exact ⟨_, ((t405 != t368)), (by first | rfl | (simp; done) | (simp [*]; done)), H', ⟨by have := HJ13.out; have := HJ39.out; first | omega | exact Nat.le_refl _⟩, ⟨by (with_reducible repeat (first | apply Kd.R_alloc | apply Kd.R_drewN | apply Kd.R_drew)); exact Kd.R_mono HO_14.out (fun _ hk => trivial)⟩, ⟨by repeat (first | (with_reducible first | exact HB.out | apply below_alloc | apply pw_below_drewN | apply below_drew1) | exact HB.out)⟩⟩
                            · replace c74 := Bool.eq_false_iff.mpr c74
                              subst c74
                              have H1 : (laws_FnExactUprightDays.j2 kj39 t396 t395 true) = some r := by rw [if_neg (show ¬ (false = true) by decide)] at H; exact H
                              clear H
                              have H := H1
                              clear H1
                              have H' := Aside0.mk H
                              clear H
                              obtain ⟨Ao77, co77, eo77⟩ := Kd.R_slice HO407.out
                              subst eo77
                              obtain ⟨Ao78, co78, eo78⟩ := Kd.R_slice HO_10.out
                              subst eo78
                              go_wp2_with (first | ((with_reducible refine gate_callee (f := 26) rfl ?_); refine goesL_ (some 112) rfl rfl Try.func26 (by kernel_rfl) rfl #[.slice Ao77 t404.length co77, .slice Ao78 t367.length co78] rfl (by (try simp only [List.map_toArray, List.map_cons, List.map_nil]); first | done | rfl | (simp only [List.length_drop, List.length_take]; rfl)) ?_; (with_reducible refine (laws_eqInt64S.calls kj39 _ _ t404 _ _ t367 false _ ?side1 ?side2 ?side3 ?side4 A73.out).mono ?_); (case side1 => repeat (first | exact (Kd.R_reads' HO407.out).2.2 | (with_reducible refine Kd.C_alloc ?_ _) | (with_reducible refine Kd.C_drewN ?_ _) | (with_reducible refine Kd.C_drew ?_))); (case side2 => exact (Kd.R_reads' HO407.out).2.1); (case side3 => repeat (first | exact (Kd.R_reads' HO_10.out).2.2 | (with_reducible refine Kd.C_alloc ?_ _) | (with_reducible refine Kd.C_drewN ?_ _) | (with_reducible refine Kd.C_drew ?_))); (case side4 => exact (Kd.R_reads' HO_10.out).2.1); rintro e w' ⟨rfl, ⟨nd, rfl⟩⟩; refine ⟨_, rfl, ?_⟩))
                              go_meet
                              case rel => exact ⟨_, (true), (by first | rfl | (simp; done) | (simp [*]; done)), H', ⟨by have := HJ13.out; have := HJ39.out; first | omega | exact Nat.le_refl _⟩, ⟨by (with_reducible repeat (first | apply Kd.R_alloc | apply Kd.R_drewN | apply Kd.R_drew)); exact Kd.R_mono HO_14.out (fun _ hk => trivial)⟩, ⟨by repeat (first | (with_reducible first | exact HB.out | apply below_alloc | apply pw_below_drewN | apply below_drew1) | exact HB.out)⟩⟩
                          case rest =>
                            clear HC65
                            try clear c1
                            try clear c2
                            try clear p2
                            try clear c3
                            try clear c4
                            try clear c5
                            try clear c5b0
                            try clear c5b1
                            try clear c6
                            try clear c7
                            try clear c7b0
                            try clear c21
                            try clear c22
                            try clear c23
                            try clear c24
                            try clear c25
                            try clear c26
                            try clear c27
                            try clear c28
                            try clear c29
                            try clear c30
                            try clear c31
                            try clear c32
                            try clear c34
                            try clear c37
                            try clear c48
                            try clear c48b0
                            try clear c50
                            try clear c55
                            try clear c58
                            try clear c58b0
                            try clear c61
                            try clear c61b0
                            try clear c61b1
                            try clear c74
                            try clear p2
                            obtain ⟨kq, x118_64, rfl, HA, HJ64, HO_14, HB⟩ := hcut
                            have hl14_64 := (Kd.R_reads' HO_14.out).1
                            rw [hl14_64] at HO_14
                            (try simp only [hl14_64])
                            cases kq with
                            | zero => exact absurd HA.out (by simp [laws_FnExactUprightDays.j2])
                            | succ kj64 =>
                              have H := HA.out
                              clear HA
                              simp only [laws_FnExactUprightDays.j2] at H
                              by_cases c79 : x118_64 = true
                              · subst c79
                                have H1 : (some false) = some r := by rw [if_pos rfl] at H; exact H
                                clear H
                                have H := H1
                                clear H1
                                obtain rfl := Option.some.inj H
                                go_wp2
                                go_ret
                                exact ⟨by first | rfl | (simp [errW_none, errW_some] <;> rfl) | (simp [*, errW_none, errW_some] <;> rfl), by repeat (first | (with_reducible first | exact HB.out | apply below_alloc | apply pw_below_drewN | apply below_drew1) | exact HB.out)⟩
                              · replace c79 := Bool.eq_false_iff.mpr c79
                                subst c79
                                have H1 : ((laws_heldInt64S.f kj64 t396 1).bind fun t409 => (if t409 < 0 then (some false) else (if t409 = t395 then (some true) else (some false)))) = some r := by rw [if_neg (show ¬ (false = true) by decide)] at H; exact H
                                clear H
                                have H := H1
                                clear H1
                                replace H := Option.bind_eq_some_iff.mp H
                                obtain ⟨t409, A800, H⟩ := H
                                replace H : (if t409 < 0 then (some false) else (if t409 = t395 then (some true) else (some false))) = some r := H
                                have A80 := Aside0.mk A800
                                clear A800
                                by_cases c81 : t409 < 0
                                · rw [if_pos c81] at H
                                  have c81b0 : decide (t409 < 0) = true := decide_eq_true c81
                                  clear c81
                                  obtain rfl := Option.some.inj H
                                  go_wp2_with (first | ((with_reducible refine gate_callee (f := 32) rfl ?_); refine goesL_ (some 121) rfl rfl Try.func32 (by kernel_rfl) rfl #[.slice Ao66 t396.length co66, .int .i64 1] rfl (by (try simp only [List.map_toArray, List.map_cons, List.map_nil]); first | done | rfl | (simp only [List.length_drop, List.length_take]; rfl)) ?_; (with_reducible refine (laws_heldInt64S.calls kj64 _ _ t396 1 t409 _ ?side1 ?side2 A80.out).mono ?_); (case side1 => repeat (first | exact (Kd.R_reads' HO_14.out).2.2 | (with_reducible refine Kd.C_alloc ?_ _) | (with_reducible refine Kd.C_drewN ?_ _) | (with_reducible refine Kd.C_drew ?_))); (case side2 => exact (Kd.R_reads' HO_14.out).2.1); rintro e w' ⟨rfl, ⟨nd, rfl⟩⟩; refine ⟨_, rfl, ?_⟩))
                                  go_ret
                                  exact ⟨by first | rfl | (simp [errW_none, errW_some] <;> rfl) | (simp [*, errW_none, errW_some] <;> rfl), by repeat (first | (with_reducible first | exact HB.out | apply below_alloc | apply pw_below_drewN | apply below_drew1) | exact HB.out)⟩
                                · rw [if_neg c81] at H
                                  have c81b0 : decide (t409 < 0) = false := decide_eq_false c81
                                  clear c81
                                  by_cases c82 : t409 = t395
                                  · rw [if_pos c82] at H
                                    have c82b0 : (t409 == t395) = true := beq_iff_eq.mpr c82
                                    have c82b1 : (t409 != t395) = false := bne_eq_false_iff_eq.mpr c82
                                    clear c82
                                    obtain rfl := Option.some.inj H
                                    go_wp2_with (first | ((with_reducible refine gate_callee (f := 32) rfl ?_); refine goesL_ (some 121) rfl rfl Try.func32 (by kernel_rfl) rfl #[.slice Ao66 t396.length co66, .int .i64 1] rfl (by (try simp only [List.map_toArray, List.map_cons, List.map_nil]); first | done | rfl | (simp only [List.length_drop, List.length_take]; rfl)) ?_; (with_reducible refine (laws_heldInt64S.calls kj64 _ _ t396 1 t409 _ ?side1 ?side2 A80.out).mono ?_); (case side1 => repeat (first | exact (Kd.R_reads' HO_14.out).2.2 | (with_reducible refine Kd.C_alloc ?_ _) | (with_reducible refine Kd.C_drewN ?_ _) | (with_reducible refine Kd.C_drew ?_))); (case side2 => exact (Kd.R_reads' HO_14.out).2.1); rintro e w' ⟨rfl, ⟨nd, rfl⟩⟩; refine ⟨_, rfl, ?_⟩))
                                    go_ret
                                    exact ⟨by first | rfl | (simp [errW_none, errW_some] <;> rfl) | (simp [*, errW_none, errW_some] <;> rfl), by repeat (first | (with_reducible first | exact HB.out | apply below_alloc | apply pw_below_drewN | apply below_drew1) | exact HB.out)⟩
                                  · rw [if_neg c82] at H
                                    have c82b0 : (t409 == t395) = false := beq_eq_false_iff_ne.mpr c82
                                    have c82b1 : (t409 != t395) = true := bne_iff_ne.mpr c82
                                    obtain rfl := Option.some.inj H
                                    go_wp2_with (first | ((with_reducible refine gate_callee (f := 32) rfl ?_); refine goesL_ (some 121) rfl rfl Try.func32 (by kernel_rfl) rfl #[.slice Ao66 t396.length co66, .int .i64 1] rfl (by (try simp only [List.map_toArray, List.map_cons, List.map_nil]); first | done | rfl | (simp only [List.length_drop, List.length_take]; rfl)) ?_; (with_reducible refine (laws_heldInt64S.calls kj64 _ _ t396 1 t409 _ ?side1 ?side2 A80.out).mono ?_); (case side1 => repeat (first | exact (Kd.R_reads' HO_14.out).2.2 | (with_reducible refine Kd.C_alloc ?_ _) | (with_reducible refine Kd.C_drewN ?_ _) | (with_reducible refine Kd.C_drew ?_))); (case side2 => exact (Kd.R_reads' HO_14.out).2.1); rintro e w' ⟨rfl, ⟨nd, rfl⟩⟩; refine ⟨_, rfl, ?_⟩))
                                    go_ret
                                    exact ⟨by first | rfl | (simp [errW_none, errW_some] <;> rfl) | (simp [*, errW_none, errW_some] <;> rfl), by repeat (first | (with_reducible first | exact HB.out | apply below_alloc | apply pw_below_drewN | apply below_drew1) | exact HB.out)⟩
                        · rw [if_neg c61] at H
                          have c61b0 : (t397 == t395) = false := beq_eq_false_iff_ne.mpr c61
                          have c61b1 : (t397 != t395) = true := bne_iff_ne.mpr c61
                          obtain rfl := Option.some.inj H
                          obtain ⟨Ao83, co83, eo83⟩ := Kd.R_slice HO_14.out
                          subst eo83
                          go_wp2_with (first | ((with_reducible refine gate_callee (f := 31) rfl ?_); refine goesL_ (some 91) rfl rfl Try.func31 (by kernel_rfl) rfl #[.slice Ao83 t377.length co83, .int .i64 1] rfl (by (try simp only [List.map_toArray, List.map_cons, List.map_nil]); first | done | rfl | (simp only [List.length_drop, List.length_take]; rfl)) ?_; (with_reducible refine (laws_markInt64S.calls kj39 (fun k_ => some k_ = (.slice Ao83 t377.length co83 : Value).ownBlock) (.slice Ao83 t377.length co83) t377 1 t395 t396 w _ ?side1 ?side2 A56.out).mono ?_); (case side1 => repeat (first | (with_reducible first | exact HB.out | apply below_alloc | apply pw_below_drewN | apply below_drew1) | exact HB.out)); (case side2 => exact Kd.R_tight rfl HO_14.out); rintro e w84 ⟨rfl, hy0, hb, hkp⟩; refine ⟨_, rfl, ?_⟩; have n0_ := Aside0.mk (Kd.R_mono (ok' := fun k_ => some k_ ≠ (.slice Ao83 t377.length co83 : Value).ownBlock) (Kd.R_keptB (HO_10.out) hkp (fun k_ hk_ hs_ => (hk_) hs_)) (fun k_ hk_ => hk_.1)); have n1_ := Aside0.mk (Kd.R_reok rfl hy0 (fun k_ e_ => HO_14.out.1 k_ e_)); have n2_ := Aside0.mk (hb); clear HO_10; clear HO_14; clear HB; have HO_10 := n0_; have HO_14 := n1_; have HB := n2_; clear n0_ n1_ n2_; (try clear hb); (try clear hkp); (try clear hy0)) | ((with_reducible refine gate_callee (f := 32) rfl ?_); refine goesL_ (some 94) rfl rfl Try.func32 (by kernel_rfl) rfl #[.slice Ao83 t396.length co83, .int .i64 1] rfl (by (try simp only [List.map_toArray, List.map_cons, List.map_nil]); first | done | (rw [show t396.length = t377.length from (Kd.R_reads' HO_14.out).1.symm] <;> rfl) | rfl | (simp only [List.length_drop, List.length_take]; rfl)) ?_; (with_reducible refine (laws_heldInt64S.calls kj39 _ _ t396 1 t397 _ ?side1 ?side2 A57.out).mono ?_); (case side1 => repeat (first | exact (Kd.R_reads' HO_14.out).2.2 | (with_reducible refine Kd.C_alloc ?_ _) | (with_reducible refine Kd.C_drewN ?_ _) | (with_reducible refine Kd.C_drew ?_))); (case side2 => rw [show t396.length = t377.length from (Kd.R_reads' HO_14.out).1.symm]; exact (Kd.R_reads' HO_14.out).2.1); rintro e w' ⟨rfl, ⟨nd, rfl⟩⟩; refine ⟨_, rfl, ?_⟩))
                          go_ret
                          exact ⟨by first | rfl | (simp [errW_none, errW_some] <;> rfl) | (simp [*, errW_none, errW_some] <;> rfl), by repeat (first | (with_reducible first | exact HB.out | apply below_alloc | apply pw_below_drewN | apply below_drew1) | exact HB.out)⟩
              · replace c37 := Bool.eq_false_iff.mpr c37
                subst c37
                have H1 : (some false) = some r := by rw [if_neg (show ¬ (false = true) by decide)] at H; exact H
                clear H
                have H := H1
                clear H1
                obtain rfl := Option.some.inj H
                go_wp2_with (first | ((with_reducible refine gate_callee (f := 23) rfl ?_); refine goesL_ (some 62) rfl rfl Try.func23 (by kernel_rfl) rfl #[.slice A0 l0.length c0] rfl (by (try simp only [List.map_toArray, List.map_cons, List.map_nil]); first | done | rfl | (simp only [List.length_drop, List.length_take]; rfl)) ?_; (with_reducible refine (laws_toRow.calls kj13 _ _ l0 t382 _ ?side1 ?side2 A32.out).mono ?_); (case side1 => repeat (first | exact (Kd.C_below HR0.out HB.out) | (with_reducible refine Kd.C_alloc ?_ _) | (with_reducible refine Kd.C_drewN ?_ _) | (with_reducible refine Kd.C_drew ?_))); (case side2 => exact HC0.out); rintro e w85 ⟨v383, rfl, ho0, hb⟩; refine ⟨_, rfl, ?_⟩; have n0_ := Aside0.mk (Kd.R_below (by (with_reducible repeat (first | apply Kd.R_alloc | apply Kd.R_drewN | apply Kd.R_drew)); exact HO_10.out) hb); have n1_ := Aside0.mk (Kd.R_elder' (by (with_reducible repeat (first | apply Kd.R_alloc | apply Kd.R_drewN | apply Kd.R_drew)); exact HO_12.out) (Kd.R_base ho0) hb); have n2_ := Aside0.mk (Kd.R_below (by (with_reducible repeat (first | apply Kd.R_alloc | apply Kd.R_drewN | apply Kd.R_drew)); exact HO_13.out) hb); have n3_ := Aside0.mk (Kd.R_below (by (with_reducible repeat (first | apply Kd.R_alloc | apply Kd.R_drewN | apply Kd.R_drew)); exact HO_14.out) hb); have n4_ := Aside0.mk (Kd.R_lower (Kd.R_new' ho0 (Kd.R_lt (by (with_reducible repeat (first | apply Kd.R_alloc | apply Kd.R_drewN | apply Kd.R_drew)); exact HO_12.out))) (below_size (by repeat (first | (with_reducible first | exact HB.out | apply below_alloc | apply pw_below_drewN | apply below_drew1) | exact HB.out)))); have n5_ := Aside0.mk (below_step (by repeat (first | (with_reducible first | exact HB.out | apply below_alloc | apply pw_below_drewN | apply below_drew1) | exact HB.out)) hb); clear HO_10; clear HO_12; clear HO_13; clear HO_14; clear HB; have HO_10 := n0_; have HO_12 := n1_; have HO_13 := n2_; have HO_14 := n3_; have HO384 := n4_; have HB := n5_; clear n0_ n1_ n2_ n3_ n4_ n5_; (try clear hb); (try clear hb2); (try clear hk); (try clear hi); (try clear ho0); obtain ⟨Ao86, co86, eo86⟩ := Kd.R_slice HO384.out; subst eo86) | ((with_reducible refine gate_callee (f := 27) rfl ?_); refine goesL_ (some 63) rfl rfl Try.func27 (by kernel_rfl) rfl #[.slice Ao22 t371.length co22, .slice Ao86 t382.length co86] rfl (by (try simp only [List.map_toArray, List.map_cons, List.map_nil]); first | done | rfl | (simp only [List.length_drop, List.length_take]; rfl)) ?_; (with_reducible refine (laws_eqRow.calls kj13 _ _ t371 _ _ t382 true _ ?side1 ?side2 ?side3 ?side4 A33.out).mono ?_); (case side1 => repeat (first | exact (Kd.R_reads' HO_12.out).2.2 | (with_reducible refine Kd.C_alloc ?_ _) | (with_reducible refine Kd.C_drewN ?_ _) | (with_reducible refine Kd.C_drew ?_))); (case side2 => exact (Kd.R_reads' HO_12.out).2.1); (case side3 => repeat (first | exact (Kd.R_reads' HO384.out).2.2 | (with_reducible refine Kd.C_alloc ?_ _) | (with_reducible refine Kd.C_drewN ?_ _) | (with_reducible refine Kd.C_drew ?_))); (case side4 => exact (Kd.R_reads' HO384.out).2.1); rintro e w' ⟨rfl, ⟨nd, rfl⟩⟩; refine ⟨_, rfl, ?_⟩) | ((with_reducible refine gate_callee (f := 24) rfl ?_); refine goesL_ (some 67) rfl rfl Try.func24 (by kernel_rfl) rfl #[.slice A1 l1.length c1] rfl (by (try simp only [List.map_toArray, List.map_cons, List.map_nil]); first | done | rfl | (simp only [List.length_drop, List.length_take]; rfl)) ?_; (with_reducible refine (laws_toWalkerS.calls kj13 _ _ l1 t386 _ ?side1 ?side2 A35.out).mono ?_); (case side1 => repeat (first | exact (Kd.C_below HR1.out (by repeat (first | (with_reducible first | exact HB.out | apply below_alloc | apply pw_below_drewN | apply below_drew1) | exact HB.out))) | (with_reducible refine Kd.C_alloc ?_ _) | (with_reducible refine Kd.C_drewN ?_ _) | (with_reducible refine Kd.C_drew ?_))); (case side2 => exact HC1.out); rintro e w87 ⟨v387, rfl, ho0, hb⟩; refine ⟨_, rfl, ?_⟩; have n0_ := Aside0.mk (Kd.R_below (by (with_reducible repeat (first | apply Kd.R_alloc | apply Kd.R_drewN | apply Kd.R_drew)); exact HO_10.out) hb); have n1_ := Aside0.mk (Kd.R_below (by (with_reducible repeat (first | apply Kd.R_alloc | apply Kd.R_drewN | apply Kd.R_drew)); exact HO_12.out) hb); have n2_ := Aside0.mk (Kd.R_elder' (by (with_reducible repeat (first | apply Kd.R_alloc | apply Kd.R_drewN | apply Kd.R_drew)); exact HO_13.out) (Kd.R_base ho0) hb); have n3_ := Aside0.mk (Kd.R_below (by (with_reducible repeat (first | apply Kd.R_alloc | apply Kd.R_drewN | apply Kd.R_drew)); exact HO_14.out) hb); have n4_ := Aside0.mk (Kd.R_below (by (with_reducible repeat (first | apply Kd.R_alloc | apply Kd.R_drewN | apply Kd.R_drew)); exact HO384.out) hb); have n5_ := Aside0.mk (Kd.R_lower (Kd.R_new' ho0 (Kd.R_lt (by (with_reducible repeat (first | apply Kd.R_alloc | apply Kd.R_drewN | apply Kd.R_drew)); exact HO_13.out))) (below_size (by repeat (first | (with_reducible first | exact HB.out | apply below_alloc | apply pw_below_drewN | apply below_drew1) | exact HB.out)))); have n6_ := Aside0.mk (below_step (by repeat (first | (with_reducible first | exact HB.out | apply below_alloc | apply pw_below_drewN | apply below_drew1) | exact HB.out)) hb); clear HO_10; clear HO_12; clear HO_13; clear HO_14; clear HO384; clear HB; have HO_10 := n0_; have HO_12 := n1_; have HO_13 := n2_; have HO_14 := n3_; have HO384 := n4_; have HO388 := n5_; have HB := n6_; clear n0_ n1_ n2_ n3_ n4_ n5_ n6_; (try clear hb); (try clear hb2); (try clear hk); (try clear hi); (try clear ho0); obtain ⟨Ao88, co88, eo88⟩ := Kd.R_slice HO388.out; subst eo88) | ((with_reducible refine gate_callee (f := 28) rfl ?_); refine goesL_ (some 68) rfl rfl Try.func28 (by kernel_rfl) rfl #[.slice Ao23 t374.length co23, .slice Ao88 t386.length co88] rfl (by (try simp only [List.map_toArray, List.map_cons, List.map_nil]); first | done | rfl | (simp only [List.length_drop, List.length_take]; rfl)) ?_; (with_reducible refine (laws_eqWalkerS.calls kj13 _ _ t374 _ _ t386 false _ ?side1 ?side2 ?side3 ?side4 A36.out).mono ?_); (case side1 => repeat (first | exact (Kd.R_reads' HO_13.out).2.2 | (with_reducible refine Kd.C_alloc ?_ _) | (with_reducible refine Kd.C_drewN ?_ _) | (with_reducible refine Kd.C_drew ?_))); (case side2 => exact (Kd.R_reads' HO_13.out).2.1); (case side3 => repeat (first | exact (Kd.R_reads' HO388.out).2.2 | (with_reducible refine Kd.C_alloc ?_ _) | (with_reducible refine Kd.C_drewN ?_ _) | (with_reducible refine Kd.C_drew ?_))); (case side4 => exact (Kd.R_reads' HO388.out).2.1); rintro e w89 ⟨rfl, hb⟩; refine ⟨_, rfl, ?_⟩; have n0_ := Aside0.mk (Kd.R_below (by (with_reducible repeat (first | apply Kd.R_alloc | apply Kd.R_drewN | apply Kd.R_drew)); exact HO_10.out) hb); have n1_ := Aside0.mk (Kd.R_below (by (with_reducible repeat (first | apply Kd.R_alloc | apply Kd.R_drewN | apply Kd.R_drew)); exact HO_12.out) hb); have n2_ := Aside0.mk (Kd.R_below (by (with_reducible repeat (first | apply Kd.R_alloc | apply Kd.R_drewN | apply Kd.R_drew)); exact HO_13.out) hb); have n3_ := Aside0.mk (Kd.R_below (by (with_reducible repeat (first | apply Kd.R_alloc | apply Kd.R_drewN | apply Kd.R_drew)); exact HO_14.out) hb); have n4_ := Aside0.mk (Kd.R_below (by (with_reducible repeat (first | apply Kd.R_alloc | apply Kd.R_drewN | apply Kd.R_drew)); exact HO384.out) hb); have n5_ := Aside0.mk (Kd.R_below (by (with_reducible repeat (first | apply Kd.R_alloc | apply Kd.R_drewN | apply Kd.R_drew)); exact HO388.out) hb); have n6_ := Aside0.mk (below_step (by repeat (first | (with_reducible first | exact HB.out | apply below_alloc | apply pw_below_drewN | apply below_drew1) | exact HB.out)) hb); clear HO_10; clear HO_12; clear HO_13; clear HO_14; clear HO384; clear HO388; clear HB; have HO_10 := n0_; have HO_12 := n1_; have HO_13 := n2_; have HO_14 := n3_; have HO384 := n4_; have HO388 := n5_; have HB := n6_; clear n0_ n1_ n2_ n3_ n4_ n5_ n6_; (try clear hb); (try clear hb2); (try clear hk); (try clear hi)))
                go_ret
                exact ⟨by first | rfl | (simp [errW_none, errW_some] <;> rfl) | (simp [*, errW_none, errW_some] <;> rfl), by repeat (first | (with_reducible first | exact HB.out | apply below_alloc | apply pw_below_drewN | apply below_drew1) | exact HB.out)⟩
            · replace c34 := Bool.eq_false_iff.mpr c34
              subst c34
              have H1 : (some false) = some r := by rw [if_neg (show ¬ (false = true) by decide)] at H; exact H
              clear H
              have H := H1
              clear H1
              obtain rfl := Option.some.inj H
              go_wp2_with (first | ((with_reducible refine gate_callee (f := 23) rfl ?_); refine goesL_ (some 62) rfl rfl Try.func23 (by kernel_rfl) rfl #[.slice A0 l0.length c0] rfl (by (try simp only [List.map_toArray, List.map_cons, List.map_nil]); first | done | rfl | (simp only [List.length_drop, List.length_take]; rfl)) ?_; (with_reducible refine (laws_toRow.calls kj13 _ _ l0 t382 _ ?side1 ?side2 A32.out).mono ?_); (case side1 => repeat (first | exact (Kd.C_below HR0.out HB.out) | (with_reducible refine Kd.C_alloc ?_ _) | (with_reducible refine Kd.C_drewN ?_ _) | (with_reducible refine Kd.C_drew ?_))); (case side2 => exact HC0.out); rintro e w90 ⟨v383, rfl, ho0, hb⟩; refine ⟨_, rfl, ?_⟩; have n0_ := Aside0.mk (Kd.R_below (by (with_reducible repeat (first | apply Kd.R_alloc | apply Kd.R_drewN | apply Kd.R_drew)); exact HO_10.out) hb); have n1_ := Aside0.mk (Kd.R_elder' (by (with_reducible repeat (first | apply Kd.R_alloc | apply Kd.R_drewN | apply Kd.R_drew)); exact HO_12.out) (Kd.R_base ho0) hb); have n2_ := Aside0.mk (Kd.R_below (by (with_reducible repeat (first | apply Kd.R_alloc | apply Kd.R_drewN | apply Kd.R_drew)); exact HO_13.out) hb); have n3_ := Aside0.mk (Kd.R_below (by (with_reducible repeat (first | apply Kd.R_alloc | apply Kd.R_drewN | apply Kd.R_drew)); exact HO_14.out) hb); have n4_ := Aside0.mk (Kd.R_lower (Kd.R_new' ho0 (Kd.R_lt (by (with_reducible repeat (first | apply Kd.R_alloc | apply Kd.R_drewN | apply Kd.R_drew)); exact HO_12.out))) (below_size (by repeat (first | (with_reducible first | exact HB.out | apply below_alloc | apply pw_below_drewN | apply below_drew1) | exact HB.out)))); have n5_ := Aside0.mk (below_step (by repeat (first | (with_reducible first | exact HB.out | apply below_alloc | apply pw_below_drewN | apply below_drew1) | exact HB.out)) hb); clear HO_10; clear HO_12; clear HO_13; clear HO_14; clear HB; have HO_10 := n0_; have HO_12 := n1_; have HO_13 := n2_; have HO_14 := n3_; have HO384 := n4_; have HB := n5_; clear n0_ n1_ n2_ n3_ n4_ n5_; (try clear hb); (try clear hb2); (try clear hk); (try clear hi); (try clear ho0); obtain ⟨Ao91, co91, eo91⟩ := Kd.R_slice HO384.out; subst eo91) | ((with_reducible refine gate_callee (f := 27) rfl ?_); refine goesL_ (some 63) rfl rfl Try.func27 (by kernel_rfl) rfl #[.slice Ao22 t371.length co22, .slice Ao91 t382.length co91] rfl (by (try simp only [List.map_toArray, List.map_cons, List.map_nil]); first | done | rfl | (simp only [List.length_drop, List.length_take]; rfl)) ?_; (with_reducible refine (laws_eqRow.calls kj13 _ _ t371 _ _ t382 false _ ?side1 ?side2 ?side3 ?side4 A33.out).mono ?_); (case side1 => repeat (first | exact (Kd.R_reads' HO_12.out).2.2 | (with_reducible refine Kd.C_alloc ?_ _) | (with_reducible refine Kd.C_drewN ?_ _) | (with_reducible refine Kd.C_drew ?_))); (case side2 => exact (Kd.R_reads' HO_12.out).2.1); (case side3 => repeat (first | exact (Kd.R_reads' HO384.out).2.2 | (with_reducible refine Kd.C_alloc ?_ _) | (with_reducible refine Kd.C_drewN ?_ _) | (with_reducible refine Kd.C_drew ?_))); (case side4 => exact (Kd.R_reads' HO384.out).2.1); rintro e w' ⟨rfl, ⟨nd, rfl⟩⟩; refine ⟨_, rfl, ?_⟩))
              go_ret
              exact ⟨by first | rfl | (simp [errW_none, errW_some] <;> rfl) | (simp [*, errW_none, errW_some] <;> rfl), by repeat (first | (with_reducible first | exact HB.out | apply below_alloc | apply pw_below_drewN | apply below_drew1) | exact HB.out)⟩
end Go.Proofs.Ytmheflciiodhdaa.P
/- Plain lemmas on rounds and on lists, for the pure statements. -/
namespace Go.Proofs.Ytmheflciiodhdaa.P
open Go.RowKit Go.Proofs.YtmheflciiodhdaaW.PrintWords Go.Proofs.YtmheflciiodhdaaW.PrintLast Go.Proofs.YtmheflciiodhdaaW.PrintMore
theorem w64 {x : Int} (h0 : -9223372036854775808 ≤ x) (h1 : x ≤ 9223372036854775807) : wrap64 x = x := by unfold wrap64; omega
theorem Ev.some {α : Type} {g : Nat → Option α} {r : α} (h : ∀ k, g k = some r) : Ev g r := ⟨0, fun k _ => h k⟩
theorem Ev.pure {α : Type} (r : α) : Ev (fun _ => Option.some r) r := ⟨0, fun _ _ => rfl⟩
theorem Ev.one {α : Type} {g : Nat → Option α} {r : α} (h : ∀ k, g (k + 1) = Option.some r) : Ev g r :=
  ⟨1, fun k hk => by obtain ⟨m, rfl⟩ : ∃ m, k = m + 1 := ⟨k - 1, by omega⟩; exact h m⟩
theorem Ev.at {α : Type} {g : Nat → Option α} {r : α} (h : Ev g r) : ∃ k, g k = Option.some r := by obtain ⟨K, hK⟩ := h; exact ⟨K, hK K (Nat.le_refl _)⟩
theorem Ev.unique {α : Type} {g : Nat → Option α} {r r' : α} (h : Ev g r) (h' : Ev g r') : r = r' := by
  obtain ⟨K, hK⟩ := h
  obtain ⟨K', hK'⟩ := h'
  have a := hK (max K K') (Nat.le_max_left _ _)
  have b := hK' (max K K') (Nat.le_max_right _ _)
  rw [a] at b
  exact Option.some.inj b
/-- A loop over i = 0, 1, .., n: each round goes on. -/
theorem Ev.loop {σ ρ : Type} (l : Nat → σ → Int → Option ρ) (n : Nat) (I : Nat → σ → Prop) (r : ρ)
    (hs : ∀ i s, i < n → I i s → ∃ s', I (i + 1) s' ∧ (Ev (fun k => l k s' ((i : Int) + 1)) r → Ev (fun k => l k s (i : Int)) r))
    (he : ∀ s, I n s → Ev (fun k => l k s (n : Int)) r) : ∀ (d i : Nat) (s : σ), i + d = n → I i s → Ev (fun k => l k s (i : Int)) r
  | 0, i, s, hd, hI => by
    obtain rfl : i = n := by omega
    exact he s hI
  | d + 1, i, s, hd, hI => by
    obtain ⟨s', hI', hk⟩ := hs i s (by omega) hI
    refine hk ?_
    have := Ev.loop l n I r hs he d (i + 1) s' (by omega) hI'
    simpa using this
theorem rd_lt {xs : List Int} {i : Nat} (h : i < xs.length) : rd xs (i : Int) = xs[i] := by simp [rd, h]
theorem set_rd_take {xs acc : List Int} {i : Nat} (h : i < xs.length) (hl : acc.length = xs.length) (ht : acc.take i = xs.take i) : (acc.set i (rd xs i)).take (i + 1) = xs.take (i + 1) := by
  rw [List.take_succ_eq_append_getElem (by simpa [hl] using h), List.take_succ_eq_append_getElem h, List.take_set_of_le (by omega), ht]
  simp [rd_lt h]
theorem eq_of_take {α : Type} {a b : List α} (hl : a.length = b.length) (h : a.take b.length = b.take b.length) : a = b := by
  rw [List.take_length] at h
  rw [← h, ← hl, List.take_length]
end Go.Proofs.Ytmheflciiodhdaa.P
/- What the helpers of the exact laws of the turning chapter tell: copies are copies, equal lists are equal, marks count up. -/
namespace Go.Proofs.Ytmheflciiodhdaa.P
open Go.RowKit Go.Proofs.YtmheflciiodhdaaW.PrintWords Go.Proofs.YtmheflciiodhdaaW.PrintLast Go.Proofs.YtmheflciiodhdaaW.PrintMore
theorem toRow_ev (xs : List Int) (hn : xs.length ≤ 1048576) : Ev (fun k => laws_toRow.f k xs) xs := by
  have key := Ev.loop (fun k (s : List Int) i => laws_toRow.l0 k xs s i) xs.length (fun i s => s.length = xs.length ∧ s.take i = xs.take i) xs ?_ ?_ xs.length 0 (List.replicate xs.length 0) (by omega) (by simp)
  · refine Ev.congr (fun k => ?_) key
    unfold laws_toRow.f
    rw [if_pos (by omega), if_pos (by simp; omega)]; simp
  · intro i s hi ⟨hl, ht⟩
    refine ⟨s.set i (rd xs i), ⟨by simpa using hl, set_rd_take hi hl ht⟩, fun h => Ev.step (fun k => ?_) h⟩
    simp only [laws_toRow.l0]
    rw [if_pos (by omega), if_pos (by omega), if_pos (by omega), w64 (by omega) (by omega)]; simp
  · intro s ⟨hl, ht⟩
    obtain rfl := eq_of_take hl ht
    exact Ev.one (fun k => by simp only [laws_toRow.l0]; rw [if_neg (by omega)])
def convW (x : S94) : S38 := ⟨x.f0, x.f1, x.f2, x.f3, x.f4, x.f5⟩
theorem toWalkerS_ev (xs : List S94) (hn : xs.length ≤ 1048576) : Ev (fun k => laws_toWalkerS.f k xs) (xs.map convW) := by
  have key := Ev.loop (fun k (s : List S38) i => laws_toWalkerS.l0 k xs s i) xs.length (fun i s => s.length = xs.length ∧ s.take i = (xs.map convW).take i) (xs.map convW) ?_ ?_ xs.length 0 (List.replicate xs.length z38) (by omega) (by simp)
  · refine Ev.congr (fun k => ?_) key
    unfold laws_toWalkerS.f
    rw [if_pos (by omega), if_pos (by simp; omega)]; simp
  · intro i s hi ⟨hl, ht⟩
    refine ⟨s.set i (convW (rd_T94 xs i)), ⟨by simpa using hl, ?_⟩, fun h => Ev.step (fun k => ?_) h⟩
    · rw [List.take_succ_eq_append_getElem (by simpa [hl] using hi), List.take_succ_eq_append_getElem (by simpa using hi), List.take_set_of_le (by omega), ht]
      simp [rd_T94, hi]
    · simp only [laws_toWalkerS.l0, laws_toWalker.f]
      rw [if_pos (by omega), if_pos (by omega)]
      simp only [Option.bind_some]
      rw [if_pos (by omega), w64 (by omega) (by omega)]; simp [convW]
  · intro s ⟨hl, ht⟩
    obtain rfl := eq_of_take (b := xs.map convW) (by simpa using hl) (by simpa using ht)
    exact Ev.one (fun k => by simp only [laws_toWalkerS.l0]; rw [if_neg (by omega)])
theorem eqInt64S_ev (xs : List Int) (hn : xs.length ≤ 1048576) : Ev (fun k => laws_eqInt64S.f k xs xs) true := by
  have key := Ev.loop (fun k (_ : Unit) i => laws_eqInt64S.l0 k xs xs i) xs.length (fun _ _ => True) true ?_ ?_ xs.length 0 () (by omega) trivial
  · refine Ev.congr (fun k => ?_) key
    unfold laws_eqInt64S.f
    rw [if_pos rfl]; simp
  · intro i s hi _
    refine ⟨(), trivial, fun h => Ev.step (fun k => ?_) h⟩
    simp only [laws_eqInt64S.l0]
    rw [if_pos (by omega), if_pos (by omega), if_pos (by omega), if_pos trivial, w64 (by omega) (by omega)]
  · exact fun _ _ => Ev.one (fun k => by simp only [laws_eqInt64S.l0]; rw [if_neg (by omega)])
theorem eqRow_ev (xs : List Int) (hn : xs.length ≤ 1048576) : Ev (fun k => laws_eqRow.f k xs xs) true := by
  have key := Ev.loop (fun k (_ : Unit) i => laws_eqRow.l0 k xs xs i) xs.length (fun _ _ => True) true ?_ ?_ xs.length 0 () (by omega) trivial
  · refine Ev.congr (fun k => ?_) key
    unfold laws_eqRow.f
    rw [if_pos rfl]; simp
  · intro i s hi _
    refine ⟨(), trivial, fun h => Ev.step (fun k => ?_) h⟩
    simp only [laws_eqRow.l0]
    rw [if_pos (by omega), if_pos (by omega), if_pos (by omega), if_pos trivial, w64 (by omega) (by omega)]
  · exact fun _ _ => Ev.one (fun k => by simp only [laws_eqRow.l0]; rw [if_neg (by omega)])
theorem eqWalkerS_ev (xs : List S38) (hn : xs.length ≤ 1048576) : Ev (fun k => laws_eqWalkerS.f k xs xs) true := by
  have key := Ev.loop (fun k (_ : Unit) i => laws_eqWalkerS.l0 k xs xs i) xs.length (fun _ _ => True) true ?_ ?_ xs.length 0 () (by omega) trivial
  · refine Ev.congr (fun k => ?_) key
    unfold laws_eqWalkerS.f
    rw [if_pos rfl]; simp
  · intro i s hi _
    refine ⟨(), trivial, fun h => Ev.step (fun k => ?_) h⟩
    simp only [laws_eqWalkerS.l0, laws_eqWalker.f]
    rw [if_pos (by omega), if_pos (by omega), if_pos (by omega), w64 (by omega) (by omega)]
    simp
  · exact fun _ _ => Ev.one (fun k => by simp only [laws_eqWalkerS.l0]; rw [if_neg (by omega)])
theorem markRow_ev (xs : List Int) (a : Int) (ha : 0 ≤ a) (ha1 : a ≤ 100000000) (hn : xs.length ≤ 1048576) : ∃ ys, Ev (fun k => laws_markRow.f k xs a) (a + xs.length, ys) := by
  have key : ∀ (d i : Nat) (s : List Int) (a : Int), i + d = xs.length → s.length = xs.length → 0 ≤ a → a + d ≤ 200000000 → ∃ ys, Ev (fun k => laws_markRow.l0 k s a i) (a + d, ys) := by
    intro d
    induction d with
    | zero =>
      intro i s a hd hl h0 h1
      exact ⟨s, Ev.one (fun k => by simp only [laws_markRow.l0]; rw [if_neg (by omega)]; simp)⟩
    | succ d ih =>
      intro i s a hd hl h0 h1
      obtain ⟨ys, h⟩ := ih (i + 1) (s.set i (a % 256)) (a + 1) (by omega) (by simpa using hl) (by omega) (by omega)
      refine ⟨ys, Ev.step (fun k => ?_) (by rw [show a + ((d + 1 : Nat) : Int) = a + 1 + d by omega]; exact h)⟩
      simp only [laws_markRow.l0]
      rw [if_pos (by omega), if_pos (by omega), w64 (by omega) (by omega), w64 (by omega) (by omega)]; simp
  exact key xs.length 0 xs a (by omega) rfl ha (by omega)
def mkW (s : List S38) (a : Int) (i : Int) : List S38 :=
  let y1 := s.set i.toNat ⟨IntKind.i16.wrap a, (rd_T38 s i).f1, (rd_T38 s i).f2, (rd_T38 s i).f3, (rd_T38 s i).f4, (rd_T38 s i).f5⟩
  let y2 := y1.set i.toNat ⟨(rd_T38 y1 i).f0, IntKind.i16.wrap (a + 1), (rd_T38 y1 i).f2, (rd_T38 y1 i).f3, (rd_T38 y1 i).f4, (rd_T38 y1 i).f5⟩
  let y3 := y2.set i.toNat ⟨(rd_T38 y2 i).f0, (rd_T38 y2 i).f1, IntKind.i16.wrap (a + 2), (rd_T38 y2 i).f3, (rd_T38 y2 i).f4, (rd_T38 y2 i).f5⟩
  let y4 := y3.set i.toNat ⟨(rd_T38 y3 i).f0, (rd_T38 y3 i).f1, (rd_T38 y3 i).f2, IntKind.i16.wrap (a + 3), (rd_T38 y3 i).f4, (rd_T38 y3 i).f5⟩
  let y5 := y4.set i.toNat ⟨(rd_T38 y4 i).f0, (rd_T38 y4 i).f1, (rd_T38 y4 i).f2, (rd_T38 y4 i).f3, IntKind.i16.wrap (a + 4), (rd_T38 y4 i).f5⟩
  y5.set i.toNat ⟨(rd_T38 y5 i).f0, (rd_T38 y5 i).f1, (rd_T38 y5 i).f2, (rd_T38 y5 i).f3, (rd_T38 y5 i).f4, IntKind.i8.wrap (a + 5)⟩
theorem mkW_len (s : List S38) (a : Int) (i : Int) : (mkW s a i).length = s.length := by simp [mkW]
theorem markWalkerS_ev (xs : List S38) (a : Int) (ha : 0 ≤ a) (ha1 : a ≤ 100000000) (hn : xs.length ≤ 1048576) : ∃ ys, Ev (fun k => laws_markWalkerS.f k xs a) (a + 6 * xs.length, ys) := by
  have key : ∀ (d i : Nat) (s : List S38) (a : Int), i + d = xs.length → s.length = xs.length → 0 ≤ a → a + 6 * d ≤ 200000000 → ∃ ys, Ev (fun k => laws_markWalkerS.l0 k s a i) (a + 6 * d, ys) := by
    intro d
    induction d with
    | zero =>
      intro i s a hd hl h0 h1
      exact ⟨s, Ev.one (fun k => by simp only [laws_markWalkerS.l0]; rw [if_neg (by omega)]; simp)⟩
    | succ d ih =>
      intro i s a hd hl h0 h1
      have c1 : (i : Int) < (s.length : Int) := by omega
      have c2 : (0 : Int) ≤ (i : Int) := by omega
      have H := fun s' (hs' : s'.length = xs.length) => ih (i + 1) s' (a + 6) (by omega) hs' (by omega) (by omega)
      have e1 : wrap64 (a + 1) = a + 1 := w64 (by omega) (by omega)
      have e2 : wrap64 (a + 1 + 1) = a + 2 := by rw [w64 (by omega) (by omega)]; omega
      have e3 : wrap64 (a + 2 + 1) = a + 3 := by rw [w64 (by omega) (by omega)]; omega
      have e4 : wrap64 (a + 3 + 1) = a + 4 := by rw [w64 (by omega) (by omega)]; omega
      have e5 : wrap64 (a + 4 + 1) = a + 5 := by rw [w64 (by omega) (by omega)]; omega
      have e6 : wrap64 (a + 5 + 1) = a + 6 := by rw [w64 (by omega) (by omega)]; omega
      have e7 : wrap64 ((i : Int) + 1) = (i : Int) + 1 := w64 (by omega) (by omega)
      obtain ⟨ys, hy⟩ := H (mkW s a i) (by rw [mkW_len]; exact hl)
      clear H ih
      refine ⟨ys, Ev.step (f := fun k => laws_markWalkerS.l0 k (mkW s a i) (a + 6) ((i : Int) + 1)) (fun k => ?_) ?_⟩
      · simp only [laws_markWalkerS.l0, Option.bind_some]
        rw [if_pos c1, if_pos c2, e1, e2, e3, e4, e5, e6, e7]
        rfl
      · rw [show a + 6 * ((d + 1 : Nat) : Int) = a + 6 + 6 * d by omega]
        simpa using hy
  exact key xs.length 0 xs a (by omega) rfl ha (by omega)
def upFrom (a : Int) : Nat → List Int
  | 0 => []
  | n + 1 => a :: upFrom (a + 1) n
theorem upFrom_len : ∀ (n : Nat) (a : Int), (upFrom a n).length = n
  | 0, _ => rfl
  | n + 1, a => by simp [upFrom, upFrom_len n]
theorem rd_upFrom : ∀ (n : Nat) (a : Int) (i : Nat), i < n → rd (upFrom a n) i = a + i
  | n + 1, a, 0, _ => by simp [upFrom, rd]
  | n + 1, a, i + 1, h => by
    have := rd_upFrom n (a + 1) i (by omega)
    simp [rd, upFrom] at this ⊢
    rw [this]; omega
theorem markInt64S_ev (xs : List Int) (hn : xs.length ≤ 1048576) : Ev (fun k => laws_markInt64S.f k xs 1) (1 + (xs.length : Int), upFrom 1 xs.length) := by
  have key := Ev.loop (fun k (s : List Int × Int) i => laws_markInt64S.l0 k s.1 s.2 i) xs.length (fun i s => s.1.length = xs.length ∧ s.2 = 1 + i ∧ s.1.take i = (upFrom 1 xs.length).take i) (1 + (xs.length : Int), upFrom 1 xs.length) ?_ ?_ xs.length 0 (xs, 1) (by omega) (by simp)
  · exact Ev.congr (fun k => by simp [laws_markInt64S.f]) key
  · rintro i ⟨s, a⟩ hi ⟨hl, ha, ht⟩
    simp only at hl ha ht
    refine ⟨(s.set i a, 1 + ((i + 1 : Nat) : Int)), ⟨by simpa using hl, rfl, ?_⟩, fun h => Ev.step (fun k => ?_) h⟩
    · have := set_rd_take (xs := upFrom 1 xs.length) (acc := s) (i := i) (by rw [upFrom_len]; exact hi) (by rw [upFrom_len]; exact hl) ht
      rw [rd_upFrom _ _ _ hi, ← ha] at this
      exact this
    · simp only [laws_markInt64S.l0]
      rw [if_pos (by omega), if_pos (by omega), w64 (by omega) (by omega), w64 (by omega) (by omega), show a + 1 = 1 + ((i + 1 : Nat) : Int) by omega]; simp
  · rintro ⟨s, a⟩ ⟨hl, ha, ht⟩
    simp only at hl ha ht
    obtain rfl := eq_of_take (a := s) (b := upFrom 1 xs.length) (by rw [upFrom_len]; exact hl) (by rw [upFrom_len]; exact ht)
    exact Ev.one (fun k => by simp only [laws_markInt64S.l0]; rw [if_neg (by rw [upFrom_len]; omega), ha])
theorem heldInt64S_ev (n : Nat) (hn : n ≤ 1048576) : Ev (fun k => laws_heldInt64S.f k (upFrom 1 n) 1) (1 + (n : Int)) := by
  have key := Ev.loop (fun k (a : Int) i => laws_heldInt64S.l0 k (upFrom 1 n) a i) n (fun i a => a = 1 + i) (1 + (n : Int)) ?_ ?_ n 0 1 (by omega) (by simp)
  · exact Ev.congr (fun k => by simp [laws_heldInt64S.f]) key
  · rintro i a hi rfl
    refine ⟨_, rfl, fun h => Ev.step (fun k => ?_) h⟩
    simp only [laws_heldInt64S.l0]
    rw [if_pos (by rw [upFrom_len]; omega), if_pos (by omega), if_pos (by rw [rd_upFrom _ _ _ hi]), w64 (by omega) (by omega), w64 (by omega) (by omega), show 1 + (i : Int) + 1 = 1 + ((i + 1 : Nat) : Int) by omega]
  · rintro a rfl
    exact Ev.one (fun k => by simp only [laws_heldInt64S.l0]; rw [if_neg (by rw [upFrom_len]; omega)])
theorem szWalkerS_some (l : List S94) (hl : l.length ≤ 9223372036854775807) (b : Int) (h : laws_szWalkerS.f l 1048576 = some b) (hb : ¬ b < 0) : l.length ≤ 1048576 := by
  unfold laws_szWalkerS.f at h
  rw [w64 (by omega) (by omega)] at h
  by_cases hh : 1048576 - (l.length : Int) < 0
  · rw [if_pos hh] at h
    obtain rfl := Option.some.inj h
    omega
  · omega
theorem szWalkerS_ex (l : List S94) : ∃ b, laws_szWalkerS.f l 1048576 = some b := by
  unfold laws_szWalkerS.f
  split <;> exact ⟨_, rfl⟩
end Go.Proofs.Ytmheflciiodhdaa.P
/- Rows and walkers in plain words: who stands where how often, and what a row is after walks. -/
namespace Go.Proofs.Ytmheflciiodhdaa.P
open Go.RowKit Go.Proofs.YtmheflciiodhdaaW.PrintWords Go.Proofs.YtmheflciiodhdaaW.PrintLast Go.Proofs.YtmheflciiodhdaaW.PrintMore
/-- A walker whose numbers are in bounds, for a row of b bottles. -/
structure WOk (b : Int) (x : S38) : Prop where
  h0 : 0 ≤ x.f0 ∧ x.f0 ≤ 10000
  h1 : 1 ≤ x.f1 ∧ x.f1 ≤ 100
  h2 : 0 ≤ x.f2 ∧ x.f2 ≤ b - 1
  h3 : 0 ≤ x.f3 ∧ x.f3 ≤ 60
  h4 : 1 ≤ x.f4 ∧ x.f4 ≤ 60
  h5 : -7 ≤ x.f5 ∧ x.f5 ≤ 7
theorem rd_getElem {xs : List Int} {i : Nat} (h : i < xs.length) : rd xs (i : Int) = xs[i] := rd_lt h
theorem ext_rd {a b : List Int} (hl : a.length = b.length) (h : ∀ i : Nat, i < a.length → rd a i = rd b i) : a = b := by
  refine List.ext_getElem hl (fun i h1 h2 => ?_)
  have := h i h1
  rwa [rd_lt h1, rd_lt h2] at this
theorem rd_zipWith {g : Int → Int → Int} {xs ys : List Int} {i : Nat} (h1 : i < xs.length) (h2 : i < ys.length) : rd (List.zipWith g xs ys) i = g (rd xs i) (rd ys i) := by
  rw [rd_lt (by simp; omega), rd_lt h1, rd_lt h2]; simp
theorem rd_mem {p : Int → Prop} {xs : List Int} (h : ∀ y ∈ xs, p y) (h0 : p 0) (i : Int) : p (rd xs i) := by
  simp only [rd, List.getD_eq_getElem?_getD]
  cases e : xs[i.toNat]? with
  | none => exact h0
  | some y => exact h y (List.mem_of_getElem? e)
def visN (b st sp : Int) : Nat → List Int
  | 0 => List.replicate b.toNat 0
  | j + 1 => (visN b st sp j).set ((st + j * sp) % b).toNat (rd (visN b st sp j) ((st + j * sp) % b) + 1)
def vis (b : Int) (x : S38) : List Int := visN b x.f2 x.f3 x.f4.toNat
theorem visN_len (b st sp : Int) : ∀ j, (visN b st sp j).length = b.toNat
  | 0 => by simp [visN]
  | j + 1 => by simp [visN, visN_len b st sp j]
theorem visN_bound (b st sp : Int) : ∀ (j : Nat) (y : Int), y ∈ visN b st sp j → 0 ≤ y ∧ y ≤ j
  | 0, y, h => by simp [visN] at h; omega
  | j + 1, y, h => by
    have ih := visN_bound b st sp j
    rcases List.mem_or_eq_of_mem_set h with h | h
    · have := ih y h; omega
    · have := rd_mem (p := fun y => 0 ≤ y ∧ y ≤ j) ih (by omega) ((st + j * sp) % b)
      omega
theorem visN_rd (b st sp : Int) (j : Nat) (i : Int) : 0 ≤ rd (visN b st sp j) i ∧ rd (visN b st sp j) i ≤ j :=
  rd_mem (p := fun y => 0 ≤ y ∧ y ≤ j) (visN_bound b st sp j) (by omega) i
theorem vis_len (b : Int) (x : S38) : (vis b x).length = b.toNat := visN_len _ _ _ _
theorem vis_rd {b : Int} {x : S38} (hx : WOk b x) (i : Int) : 0 ≤ rd (vis b x) i ∧ rd (vis b x) i ≤ 60 := by
  have := visN_rd b x.f2 x.f3 x.f4.toNat i
  have := hx.h4
  unfold vis
  omega
theorem at_step {st sp b : Int} (j : Nat) : ((st + j * sp) % b + sp) % b = (st + ((j + 1 : Nat) : Int) * sp) % b := by
  rw [Int.emod_add_emod]
  congr 1
  push_cast
  rw [Int.add_mul, Int.one_mul]; omega
theorem tmod_nn {a b : Int} (h : 0 ≤ a) : Int.tmod a b = a % b := Int.tmod_eq_emod_of_nonneg h
theorem w16 {x : Int} (h0 : -32768 ≤ x) (h1 : x ≤ 32767) : IntKind.i16.wrap x = x := by
  simp [IntKind.wrap, IntKind.signed, IntKind.bits]
  omega
theorem specVisits_ev {b : Int} {x : S38} (hb : 1 ≤ b) (hb1 : b ≤ 60) (hx : WOk b x) : Ev (fun k => spec_l05Visits.f k b x.f0 x.f1 x.f2 x.f3 x.f4 x.f5) (vis b x) := by
  obtain ⟨⟨a0, b0⟩, ⟨a1, b1⟩, ⟨a2, b2⟩, ⟨a3, b3⟩, ⟨a4, b4⟩, ⟨a5, b5⟩⟩ := hx
  have key := Ev.loop (fun k (s : List Int × Int) i => spec_l05Visits.l0 k b s.1 s.2 i x.f0 x.f1 x.f2 x.f3 x.f4 x.f5) x.f4.toNat
    (fun i s => s = (visN b x.f2 x.f3 i, (x.f2 + i * x.f3) % b)) (vis b x) ?_ ?_ x.f4.toNat 0 (List.replicate b.toNat 0, x.f2) (by omega)
    (by simp [visN]; exact (Int.emod_eq_of_lt (by omega) (by omega)).symm)
  · refine Ev.congr (fun k => ?_) key
    unfold spec_l05Visits.f
    rw [if_pos (by omega), if_pos (by omega), w64 (by omega) (by omega)]; rfl
  · rintro i s hi rfl
    have m0 := Int.emod_nonneg (x.f2 + i * x.f3) (show b ≠ 0 by omega)
    have m1 := Int.emod_lt_of_pos (x.f2 + i * x.f3) (show 0 < b by omega)
    have hv := visN_rd b x.f2 x.f3 i ((x.f2 + i * x.f3) % b)
    have hl := visN_len b x.f2 x.f3 i
    refine ⟨_, rfl, fun h => Ev.step (fun k => ?_) h⟩
    simp only [spec_l05Visits.l0]
    rw [← at_step]
    simp only [visN]
    generalize hz : (x.f2 + i * x.f3) % b = z at *
    rw [if_pos (by omega), if_pos (by omega), if_pos (by omega), if_neg (by omega), w64 (by omega) (by omega), w64 (x := x.f3) (by omega) (by omega), w64 (x := z + x.f3) (by omega) (by omega), w16 (by omega) (by omega), tmod_nn (by omega)]
  · rintro s rfl
    exact Ev.one (fun k => by simp only [spec_l05Visits.l0]; rw [if_neg (by omega)]; rfl)
theorem implVisits_ev {b : Int} {x : S38} (hb : 1 ≤ b) (hb1 : b ≤ 60) (hx : WOk b x) : Ev (fun k => impl_Walker_visits.f k x.f0 x.f1 x.f2 x.f3 x.f4 x.f5 b) (vis b x) := by
  obtain ⟨⟨a0, b0⟩, ⟨a1, b1⟩, ⟨a2, b2⟩, ⟨a3, b3⟩, ⟨a4, b4⟩, ⟨a5, b5⟩⟩ := hx
  have key := Ev.loop (fun k (s : List Int) i => impl_Walker_visits.l0 k b s x.f4 i x.f0 x.f1 x.f2 x.f3 x.f4 x.f5) x.f4.toNat
    (fun i s => s = visN b x.f2 x.f3 i) (vis b x) ?_ ?_ x.f4.toNat 0 (List.replicate b.toNat 0) (by omega) rfl
  · refine Ev.congr (fun k => ?_) key
    unfold impl_Walker_visits.f
    rw [if_pos (by omega), if_pos (by omega), w64 (by omega) (by omega)]; rfl
  · rintro i s hi rfl
    have hm : 0 ≤ (i : Int) * x.f3 ∧ (i : Int) * x.f3 ≤ 60 * 60 := by
      refine ⟨Int.mul_nonneg (by omega) (by omega), ?_⟩
      exact Int.mul_le_mul (by omega) (by omega) (by omega) (by omega)
    have m0 := Int.emod_nonneg (x.f2 + i * x.f3) (show b ≠ 0 by omega)
    have m1 := Int.emod_lt_of_pos (x.f2 + i * x.f3) (show 0 < b by omega)
    have hv := visN_rd b x.f2 x.f3 i ((x.f2 + i * x.f3) % b)
    have hl := visN_len b x.f2 x.f3 i
    refine ⟨_, rfl, fun h => Ev.step (fun k => ?_) h⟩
    simp only [impl_Walker_visits.l0]
    rw [w64 (x := x.f3) (by omega) (by omega), w64 (x := x.f2) (by omega) (by omega), w64 (x := (i : Int) * x.f3) (by omega) (by omega), w64 (x := x.f2 + (i : Int) * x.f3) (by omega) (by omega), tmod_nn (by omega)]
    simp only [visN]
    generalize hz : (x.f2 + i * x.f3) % b = z at *
    rw [if_pos (by omega), if_neg (by omega), if_pos (by omega), if_pos (by omega), w64 (by omega) (by omega), w64 (by omega) (by omega)]
  · rintro s rfl
    exact Ev.one (fun k => by simp only [impl_Walker_visits.l0]; rw [if_neg (by omega)]; rfl)
theorem tmod8 (a : Int) : ∃ q, Int.tmod a 8 = a - 8 * q ∧ -7 ≤ Int.tmod a 8 ∧ Int.tmod a 8 ≤ 7 := by
  refine ⟨Int.tdiv a 8, ?_, ?_, ?_⟩
  · have := Int.tmod_add_mul_tdiv a 8; omega
  · have h1 := Int.tmod_lt_of_pos (-a) (show (0 : Int) < 8 by omega)
    rw [Int.neg_tmod] at h1; omega
  · have := Int.tmod_lt_of_pos a (show (0 : Int) < 8 by omega); omega
theorem eighth_eq (z : Int) : eighth z = z % 8 := by
  obtain ⟨q, hq, h0, h1⟩ := tmod8 z
  unfold eighth
  rw [w64 (by omega) (by omega), tmod_nn (by omega)]
  omega
theorem mul_bd {a b : Int} {A B : Nat} (ha : a.natAbs ≤ A) (hb : b.natAbs ≤ B) : (a * b).natAbs ≤ A * B := by
  rw [Int.natAbs_mul]; exact Nat.mul_le_mul ha hb
/-- One walker's walk, bottle by bottle. -/
theorem turnAt_eq {walks turn v x : Int} (hx : 0 ≤ x ∧ x ≤ 255) (hv : 0 ≤ v ∧ v ≤ 60) (ht : -7 ≤ turn ∧ turn ≤ 7) : turnAt walks turn v x = (x + walks * v * turn) % 8 := by
  obtain ⟨q, hq, h0, h1⟩ := tmod8 walks
  have m1 : (Int.tmod walks 8 * v).natAbs ≤ 7 * 60 := mul_bd (by omega) (by omega)
  have m2 : (Int.tmod walks 8 * v * turn).natAbs ≤ 7 * 60 * 7 := mul_bd m1 (by omega)
  have e : walks * v * turn = Int.tmod walks 8 * v * turn + 8 * (q * v * turn) := by
    rw [hq, Int.sub_mul, Int.sub_mul, Int.mul_assoc 8 q v, Int.mul_assoc 8 (q * v) turn]; omega
  unfold turnAt
  rw [w64 (x := x) (by omega) (by omega), w64 (x := turn) (by omega) (by omega), w64 (x := Int.tmod walks 8 * v) (by omega) (by omega), w64 (x := Int.tmod walks 8 * v * turn) (by omega) (by omega), w64 (x := x + Int.tmod walks 8 * v * turn) (by omega) (by omega)]
  have := eighth_eq (x + Int.tmod walks 8 * v * turn)
  unfold eighth at this
  rw [this, e]; omega
/-- What walks add to a bottle's turn. -/
def sumAt (b : Int) (f : S38 → Int) (i : Nat) : List S38 → Int
  | [] => 0
  | x :: r => f x * rd (vis b x) i * x.f5 + sumAt b f i r
def rowBy (f : S38 → Int) (ws : List S38) (r : List Int) : List Int := (List.range r.length).map fun (i : Nat) => (rd r (i : Int) + sumAt r.length f i ws) % 8
theorem rowBy_len (f : S38 → Int) (ws : List S38) (r : List Int) : (rowBy f ws r).length = r.length := by simp [rowBy]
theorem rowBy_rd {f : S38 → Int} {ws : List S38} {r : List Int} {i : Nat} (h : i < r.length) : rd (rowBy f ws r) i = (rd r i + sumAt r.length f i ws) % 8 := by
  rw [rd_lt (by rw [rowBy_len]; exact h)]; simp [rowBy]
theorem sumAt_add (b : Int) (f g h : S38 → Int) (i : Nat) : ∀ (ws : List S38), (∀ x ∈ ws, h x = f x + g x) → sumAt b h i ws = sumAt b f i ws + sumAt b g i ws
  | [], _ => rfl
  | x :: r, hx => by
    rw [sumAt, sumAt, sumAt, sumAt_add b f g h i r (fun y hy => hx y (List.mem_cons_of_mem _ hy)), hx x (List.mem_cons_self), Int.add_mul, Int.add_mul]; omega
theorem rowBy_rowBy (f g h : S38 → Int) (ws : List S38) (r : List Int) (hx : ∀ x ∈ ws, h x = f x + g x) : rowBy g ws (rowBy f ws r) = rowBy h ws r := by
  refine ext_rd (by simp [rowBy_len]) (fun i hi => ?_)
  rw [rowBy_len, rowBy_len] at hi
  rw [rowBy_rd (by rw [rowBy_len]; exact hi), rowBy_rd hi, rowBy_rd hi, rowBy_len, sumAt_add _ f g h i ws hx]
  omega
theorem rowBy_cong (f g : S38 → Int) (ws : List S38) (r : List Int) (hx : ∀ x ∈ ws, f x = g x) : rowBy f ws r = rowBy g ws r := by
  have e : ∀ i, sumAt r.length f i ws = sumAt r.length g i ws := fun i => by
    have := sumAt_add r.length g (fun _ => 0) f i ws (fun x h => by rw [hx x h]; omega)
    have z := sumAt_add r.length (fun _ => 0) (fun _ => 0) (fun _ => 0) i ws (fun _ _ => rfl)
    omega
  unfold rowBy
  simp only [e]
theorem rowBy_bd (f : S38 → Int) (ws : List S38) (r : List Int) : ∀ x ∈ rowBy f ws r, 0 ≤ x ∧ x ≤ 7 := by
  intro x hx
  obtain ⟨i, -, rfl⟩ := List.mem_map.mp hx
  omega
theorem rowBy_nil (f : S38 → Int) (r : List Int) (h : ∀ x ∈ r, 0 ≤ x ∧ x ≤ 7) : rowBy f [] r = r := by
  refine ext_rd (rowBy_len _ _ _) (fun i hi => ?_)
  rw [rowBy_len] at hi
  rw [rowBy_rd hi, sumAt]
  have := h _ (List.getElem_mem hi)
  rw [rd_lt hi]; omega
/-- The reference's walk of one walker. -/
theorem specTurned_ev {r : List Int} {x : S38} {n : Int} (hb : 1 ≤ r.length) (hb1 : r.length ≤ 60) (hr : ∀ y ∈ r, 0 ≤ y ∧ y ≤ 255) (hx : WOk r.length x) :
    Ev (fun k => spec_l05Turned.f k r x.f0 x.f1 x.f2 x.f3 x.f4 x.f5 n) (rowBy (fun _ => n) [x] r) := by
  refine Ev.congr (fun k => ?_) (Ev.bind (specVisits_ev (by omega) (by omega) hx) (f := fun _ vs => if (vs : List Int).length = r.length ∧ r.length < 140737488355328 then some (List.zipWith (turnAt n x.f5) vs r) else none) (Ev.some fun k => ?_))
  · rfl
  · have hl : (vis r.length x).length = r.length := by rw [vis_len]; omega
    rw [if_pos ⟨hl, by omega⟩]
    congr 1
    refine ext_rd (by simp [rowBy_len, hl]) (fun i hi => ?_)
    have hi' : i < r.length := by simpa [hl] using hi
    rw [rd_zipWith (by omega) hi', rowBy_rd hi', turnAt_eq ?_ (vis_rd hx _) hx.h5, sumAt, sumAt]
    · congr 1; omega
    · rw [rd_lt hi']; exact hr _ (List.getElem_mem hi')
theorem rowBy_cons (f : S38 → Int) (x : S38) (ws : List S38) (r : List Int) : rowBy f ws (rowBy (fun _ => f x) [x] r) = rowBy f (x :: ws) r := by
  refine ext_rd (by simp [rowBy_len]) (fun i hi => ?_)
  rw [rowBy_len, rowBy_len] at hi
  rw [rowBy_rd (by rw [rowBy_len]; exact hi), rowBy_rd hi, rowBy_rd hi, rowBy_len, sumAt, sumAt, sumAt]
  omega
/-- The program's walk of all walkers. -/
theorem walkSums_ev {b : Int} (hb : 1 ≤ b) (hb1 : b ≤ 60) (f : S38 → Int) : ∀ (ws : List S38) (S : List Int) (B : Nat), (∀ x ∈ ws, WOk b x) → (∀ x ∈ ws, (f x).natAbs ≤ 1000000) → S.length = b.toNat → (∀ i : Nat, (rd S i).natAbs ≤ B) → B + ws.length * 420000000 ≤ 1000000000000 →
    ∃ S', Ev (fun k => walkSums k b f ws S) S' ∧ S'.length = b.toNat ∧ ∀ i : Nat, i < b.toNat → rd S' i = rd S i + sumAt b f i ws ∧ (rd S' i).natAbs ≤ 1000000000000
  | [], S, B, _, _, hl, hS, hB => ⟨S, Ev.pure S, hl, fun i hi => ⟨by simp [sumAt], by have := hS i; simp at hB; omega⟩⟩
  | x :: ws, S, B, hw, hf, hl, hS, hB => by
    have hx := hw x List.mem_cons_self
    have hfx := hf x List.mem_cons_self
    have hvl := vis_len b x
    have h5 := hx.h5
    have hm1 : ∀ i : Nat, (f x * rd (vis b x) i).natAbs ≤ 1000000 * 60 := fun i => mul_bd hfx (by have := vis_rd hx i; omega)
    have hm2 : ∀ i : Nat, (f x * rd (vis b x) i * x.f5).natAbs ≤ 1000000 * 60 * 7 := fun i => mul_bd (hm1 i) (by omega)
    have hlen : (addVis (f x) x.f5 S (vis b x)).length = b.toNat := by rw [addVis_len (by omega)]; exact hl
    have hB' : B + 420000000 + ws.length * 420000000 ≤ 1000000000000 := by simp at hB; omega
    have hrd : ∀ i : Nat, i < b.toNat → rd (addVis (f x) x.f5 S (vis b x)) i = rd S i + f x * rd (vis b x) i * x.f5 := fun i hi => by
      unfold addVis
      rw [rd_zipWith (by omega) (by omega)]
      have a1 := hm1 i
      have a2 := hm2 i
      have a3 := hS i
      rw [w64 (x := x.f5) (by omega) (by omega), w64 (x := f x * rd (vis b x) i) (by omega) (by omega), w64 (x := f x * rd (vis b x) i * x.f5) (by omega) (by omega), w64 (by omega) (by omega)]
    have hbd : ∀ i : Nat, (rd (addVis (f x) x.f5 S (vis b x)) i).natAbs ≤ B + 420000000 := fun i => by
      by_cases hi : i < b.toNat
      · rw [hrd i hi]; have := hS i; have := hm2 i; omega
      · have : rd (addVis (f x) x.f5 S (vis b x)) i = 0 := by simp only [rd, Int.toNat_natCast]; rw [List.getD_eq_getElem?_getD, List.getElem?_eq_none (by omega)]; rfl
        rw [this]; simp
    obtain ⟨S', hev, hl', hS'⟩ := walkSums_ev hb hb1 f ws (addVis (f x) x.f5 S (vis b x)) (B + 420000000) (fun y hy => hw y (List.mem_cons_of_mem _ hy)) (fun y hy => hf y (List.mem_cons_of_mem _ hy)) hlen hbd hB'
    refine ⟨S', ?_, hl', fun i hi => ⟨?_, (hS' i hi).2⟩⟩
    · refine Ev.congr (fun k => ?_) (Ev.bind (implVisits_ev hb hb1 hx) (f := fun k vs => if (vs : List Int).length = S.length then walkSums k b f ws (addVis (f x) x.f5 S vs) else none) (Ev.congr (fun k => ?_) hev))
      · rfl
      · rw [if_pos (by omega)]
    · rw [(hS' i hi).1, hrd i hi, sumAt]; omega
theorem walked_ev {r : List Int} (hb : 1 ≤ r.length) (hb1 : r.length ≤ 60) (hr : ∀ y ∈ r, 0 ≤ y ∧ y ≤ 255) (f : S38 → Int) (ws : List S38) (hl : ws.length ≤ 8) (hw : ∀ x ∈ ws, WOk r.length x) (hf : ∀ x ∈ ws, (f x).natAbs ≤ 1000000) :
    Ev (fun k => walkedF k r ws f) (rowBy f ws r) := by
  obtain ⟨S, hev, hl', hS⟩ := walkSums_ev (b := r.length) (by omega) (by omega) f ws (List.replicate r.length 0) 0 hw hf (by simp) (fun i => by simp only [rd, List.getD_eq_getElem?_getD]; rw [List.getElem?_replicate]; split <;> simp) (by omega)
  refine Ev.congr (fun k => rfl) (Ev.bind hev (Ev.some fun k => ?_))
  rw [if_pos ⟨by omega, by omega⟩]
  congr 1
  refine ext_rd (by simp [rowBy_len]; omega) (fun i hi => ?_)
  have hi' : i < r.length := by simp at hi; omega
  have hr' := hr _ (List.getElem_mem hi')
  obtain ⟨e, hbd⟩ := hS i (by omega)
  have z : rd (List.replicate r.length 0) (i : Int) = 0 := by rw [rd_lt (by simpa using hi')]; simp
  rw [rd_zipWith hi' (by omega), rowBy_rd hi', eighth_eq]
  rw [rd_lt hi'] at *
  rw [w64 (x := r[i]) (by omega) (by omega), w64 (by omega) (by omega), e, z]; omega
end Go.Proofs.Ytmheflciiodhdaa.P
/- What is asked of rows and walkers, and what rows are on days. -/
namespace Go.Proofs.Ytmheflciiodhdaa.P
open Go.RowKit Go.Proofs.YtmheflciiodhdaaW.PrintWords Go.Proofs.YtmheflciiodhdaaW.PrintLast Go.Proofs.YtmheflciiodhdaaW.PrintMore
theorem l00In_inR (a lo hi : Int) : spec_l00In.f a lo hi = some (inR lo hi a) := by
  unfold spec_l00In.f inR
  by_cases h : a ≥ lo
  · rw [if_pos h]; simp [show lo ≤ a from h]
  · rw [if_neg h]; simp [show ¬ lo ≤ a from h]
theorem inR_iff {lo hi a : Int} : inR lo hi a = true ↔ lo ≤ a ∧ a ≤ hi := by simp [inR]
theorem specOk_ev (l : List Int) (hn : l.length ≤ 1048576) : Ev (fun k => spec_l05Ok.f k l) (validRow l) := by
  have key : ∀ (d i : Nat), i + d = l.length → Ev (fun k => spec_l05Ok.l0 k l (i : Int)) (inR 1 60 (l.length : Int) && !((l.drop i).any fun x => decide (7 < x))) := by
    intro d
    induction d with
    | zero =>
      intro i hi
      refine Ev.one (fun k => ?_)
      simp only [spec_l05Ok.l0]
      rw [if_neg (by omega), List.drop_eq_nil_of_le (by omega), l00In_inR]; simp
    | succ d ih =>
      intro i hi
      have hlt : i < l.length := by omega
      have e := List.drop_eq_getElem_cons hlt
      by_cases h : rd l (i : Int) > 7
      · refine Ev.one (fun k => ?_)
        simp only [spec_l05Ok.l0]
        rw [if_pos (by omega), if_pos (by omega), if_pos h, e]
        rw [rd_lt hlt] at h
        simp only [List.any_cons, decide_eq_true (show 7 < l[i] from h), Bool.true_or, Bool.not_true, Bool.and_false]
      · refine Ev.step (f := fun k => spec_l05Ok.l0 k l ((i + 1 : Nat) : Int)) (fun k => ?_) ?_
        · simp only [spec_l05Ok.l0]
          rw [if_pos (by omega), if_pos (by omega), if_neg h, w64 (by omega) (by omega)]; simp
        · have := ih (i + 1) (by omega)
          rw [e]
          rw [rd_lt hlt] at h
          simpa only [List.any_cons, decide_eq_false (show ¬ 7 < l[i] from h), Bool.false_or] using this
  have := key l.length 0 (by omega)
  simpa [validRow, spec_l05Ok.f] using this
/-- A walker's numbers are words of 16 and of 8 bits. -/
structure WT (x : S38) : Prop where
  h0 : -32768 ≤ x.f0 ∧ x.f0 ≤ 32767
  h1 : -32768 ≤ x.f1 ∧ x.f1 ≤ 32767
  h2 : -32768 ≤ x.f2 ∧ x.f2 ≤ 32767
  h3 : -32768 ≤ x.f3 ∧ x.f3 ≤ 32767
  h4 : -32768 ≤ x.f4 ∧ x.f4 ≤ 32767
  h5 : -128 ≤ x.f5 ∧ x.f5 ≤ 127
theorem specWalker_ev (b : Int) (hb : 1 ≤ b) (hb1 : b ≤ 60) (x : S38) : Ev (fun k => spec_l05Walker.f k b x.f0 x.f1 x.f2 x.f3 x.f4 x.f5) (!(badW b x)) := by
  refine Ev.one (fun k => ?_)
  unfold spec_l05Walker.f badW
  simp only [l00In_inR, Option.bind_some, spec_l05Walker.j0]
  rw [w64 (x := b - 1) (by omega) (by omega)]
  cases inR 0 10000 (wrap64 x.f0) <;> cases inR 1 100 (wrap64 x.f1) <;> cases inR 0 (b - 1) (wrap64 x.f2) <;> cases inR 0 60 (wrap64 x.f3) <;> cases inR 1 60 (wrap64 x.f4) <;> cases inR (-7) 7 (wrap64 x.f5) <;> simp
theorem specWalkers_ev (b : Int) (l : List S38) (hn : l.length ≤ 1048576) : Ev (fun k => spec_l05Walkers.f k b l) (validWalkers b l) := by
  unfold validWalkers
  by_cases hb : inR 1 60 b = true
  case neg =>
    refine Ev.one (fun k => ?_)
    simp only [spec_l05Walkers.f, l00In_inR, Option.bind_some]
    rw [if_neg hb]
    simp [spec_l05Walkers.j0, Bool.eq_false_iff.mpr hb]
  have hbb := inR_iff.mp hb
  by_cases h8 : (l.length : Int) ≤ 8
  case neg =>
    refine Ev.one (fun k => ?_)
    simp only [spec_l05Walkers.f, l00In_inR, Option.bind_some]
    rw [if_pos hb]
    simp [spec_l05Walkers.j0, show (8 : Int) < l.length by omega, h8]
  have key : ∀ (d i : Nat), i + d = l.length → Ev (fun k => spec_l05Walkers.l0 k b l (i : Int)) (!((l.drop i).any (badW b))) := by
    intro d
    induction d with
    | zero =>
      intro i hi
      refine Ev.one (fun k => ?_)
      simp only [spec_l05Walkers.l0]
      rw [if_neg (by omega), List.drop_eq_nil_of_le (by omega)]; simp
    | succ d ih =>
      intro i hi
      have hlt : i < l.length := by omega
      have e := drop_rdW hlt
      refine Ev.step (f := fun k => (spec_l05Walker.f k b (rd_T38 l i).f0 (rd_T38 l i).f1 (rd_T38 l i).f2 (rd_T38 l i).f3 (rd_T38 l i).f4 (rd_T38 l i).f5).bind fun t => if t = true then spec_l05Walkers.l0 k b l ((i + 1 : Nat) : Int) else some false) (fun k => ?_) ?_
      · simp only [spec_l05Walkers.l0]
        rw [if_pos (by omega), if_pos (by omega), w64 (by omega) (by omega)]; simp
      · refine Ev.bind (specWalker_ev b (by omega) (by omega) _) ?_
        rw [e]
        by_cases hbad : badW b (rd_T38 l i) = true
        · simpa [hbad] using Ev.pure false
        · simpa [Bool.eq_false_iff.mpr hbad] using ih (i + 1) (by omega)
  refine Ev.congr (f := fun k => spec_l05Walkers.j0 k b l false) (fun k => ?_) (Ev.step (f := fun k => spec_l05Walkers.l0 k b l ((0 : Nat) : Int)) (fun k => ?_) ?_)
  · simp only [spec_l05Walkers.f, l00In_inR, Option.bind_some]
    rw [if_pos hb]
    simp [show ¬ ((8 : Int) < l.length) by omega]
  · simp [spec_l05Walkers.j0]
  · have := key l.length 0 (by omega)
    simpa [hb, h8] using this
theorem WOk_of_valid {b : Int} {l : List S38} (ht : ∀ x ∈ l, WT x) (h : validWalkers b l = true) : (1 ≤ b ∧ b ≤ 60) ∧ l.length ≤ 8 ∧ ∀ x ∈ l, WOk b x := by
  simp only [validWalkers, Bool.and_eq_true, decide_eq_true_eq, Bool.not_eq_true', List.any_eq_false] at h
  obtain ⟨⟨h1, h2⟩, h3⟩ := h
  refine ⟨inR_iff.mp h1, by omega, fun x hx => ?_⟩
  have hb := h3 x hx
  obtain ⟨t0, t1, t2, t3, t4, t5⟩ := ht x hx
  simp only [badW, Bool.or_eq_true, Bool.not_eq_true', not_or, Bool.not_eq_false] at hb
  obtain ⟨⟨⟨⟨⟨b0, b1⟩, b2⟩, b3⟩, b4⟩, b5⟩ := hb
  rw [w64 (by omega) (by omega)] at b0 b1 b2 b3 b4 b5
  exact ⟨inR_iff.mp b0, inR_iff.mp b1, inR_iff.mp b2, inR_iff.mp b3, inR_iff.mp b4, inR_iff.mp b5⟩
theorem row_of_valid {l : List Int} (ht : ∀ x ∈ l, 0 ≤ x ∧ x ≤ 255) (h : validRow l = true) : 1 ≤ l.length ∧ l.length ≤ 60 ∧ ∀ x ∈ l, 0 ≤ x ∧ x ≤ 7 := by
  simp only [validRow, Bool.and_eq_true, Bool.not_eq_true', List.any_eq_false, decide_eq_true_eq] at h
  have := inR_iff.mp h.1
  exact ⟨by omega, by omega, fun x hx => ⟨(ht x hx).1, by have := h.2 x hx; omega⟩⟩
/-- Rows that are asked for: code 1, 2 or 0. -/
theorem specRow_ev (l : List Int) (ws : List S38) (q : Bool) (hn : l.length ≤ 1048576) (hw : ws.length ≤ 1048576) : Ev (fun k => spec_l05Row.f k l ws q) (codeB (rowOkB l ws) q) := by
  unfold spec_l05Row.f
  refine Ev.bind (specOk_ev l hn) ?_
  unfold rowOkB
  cases hv : validRow l
  · exact Ev.some (fun k => by simp [codeB])
  · have hl : Ev (fun k => spec_l05Asked.f k (l.length : Int) ws q) (codeB (validWalkers l.length ws) q) := by
      unfold spec_l05Asked.f
      refine Ev.bind (specWalkers_ev _ ws hw) (Ev.some (fun k => ?_))
      cases validWalkers l.length ws <;> cases q <;> simp [codeB]
    have := Ev.bind hl (f := fun _ t => some t) (Ev.pure _)
    simpa using this
def fromB (a b : Int) : Bool := inR 0 10000 a && inR 0 10000 b && decide (a ≤ b)
theorem l05From_eq (a b : Int) : spec_l05From.f a b = some (fromB a b) := by
  simp only [spec_l05From.f, spec_l05Day.f, l00In_inR, Option.bind_some, fromB]
  cases inR 0 10000 a <;> cases inR 0 10000 b <;> simp
def spanC (ok : Bool) (a b : Int) : Int := if codeB ok (fromB a b) = 0 then (if b - a + 1 > 400 then 3 else 0) else codeB ok (fromB a b)
theorem codeB_zero {a b : Bool} : codeB a b = 0 ↔ a = true ∧ b = true := by cases a <;> cases b <;> simp [codeB]
theorem fromB_iff {a b : Int} : fromB a b = true ↔ 0 ≤ a ∧ b ≤ 10000 ∧ a ≤ b := by simp [fromB, inR]; omega
theorem l05Span_eq (ok : Bool) (a b : Int) : spec_l05Span.f (codeB ok (fromB a b)) a b = some (spanC ok a b) := by
  unfold spec_l05Span.f spanC
  by_cases h : codeB ok (fromB a b) = 0
  · have := fromB_iff.mp (codeB_zero.mp h).2
    rw [if_pos h, if_pos h, w64 (x := b - a) (by omega) (by omega), w64 (by omega) (by omega)]
    split <;> rfl
  · rw [if_neg h, if_neg h]
theorem spanCode_ev (ok : Bool) (a b : Int) : Ev (fun k => impl_spanCode.f k ok a b) (spanC ok a b) := by
  refine Ev.one (fun k => ?_)
  have e : codeB ok (fromB a b) = if ([a, b] : List Int).all (inR 0 10000) = true then codeB ok (decide (a ≤ b)) else codeB ok false := by
    simp only [fromB, List.all_cons, List.all_nil, Bool.and_true]
    cases inR 0 10000 a <;> cases inR 0 10000 b <;> simp
  have f : ∀ c, c = codeB ok (fromB a b) → impl_spanCode.j0 (k + 1) a b c = some (spanC ok a b) := by
    rintro c rfl
    simp only [impl_spanCode.j0, spanC]
    by_cases h : codeB ok (fromB a b) = 0
    · have := fromB_iff.mp (codeB_zero.mp h).2
      rw [if_pos h, if_pos h, w64 (x := b - a) (by omega) (by omega), w64 (by omega) (by omega)]
      split <;> rfl
    · rw [if_neg h, if_neg h]
  simp only [impl_spanCode.f, isDay_all, Option.bind_some, codeOf_codeB]
  split
  · next h => exact f _ (by rw [e, if_pos h])
  · next h => exact f _ (by rw [e, if_neg h])
/-- How often a walker has come until a day, and whether on it. -/
def untilZ (x : S38) (d : Int) : Int := if d < x.f0 then 0 else (d - x.f0) / x.f1 + 1
def onB (x : S38) (d : Int) : Bool := decide (x.f0 ≤ d) && decide ((d - x.f0) % x.f1 = 0)
def onZ (x : S38) (d : Int) : Int := if onB x d = true then 1 else 0
theorem div_bd {e m : Int} (he : 0 ≤ e) (hm : 1 ≤ m) : 0 ≤ e / m ∧ e / m ≤ e := ⟨Int.ediv_nonneg he (by omega), Int.ediv_le_self _ he⟩
theorem untilO_eq {b : Int} {x : S38} (hx : WOk b x) {d : Int} (h0 : 0 ≤ d) (h1 : d ≤ 10000) : untilO x d = some (untilZ x d) := by
  obtain ⟨⟨a0, b0⟩, ⟨a1, b1⟩, -, -, -, -⟩ := hx
  unfold untilO impl_Walker_until.f untilZ
  rw [w64 (x := x.f0) (by omega) (by omega)]
  by_cases h : d < x.f0
  · rw [if_pos h, if_pos h]
  · have := div_bd (show 0 ≤ d - x.f0 by omega) a1
    rw [if_neg h, if_neg h, w64 (x := x.f1) (by omega) (by omega), if_neg (by omega), w64 (x := d - x.f0) (by omega) (by omega), Int.tdiv_eq_ediv_of_nonneg (by omega), w64 (x := (d - x.f0) / x.f1) (by omega) (by omega), w64 (by omega) (by omega)]
theorem specUntil_eq {b : Int} {x : S38} (hx : WOk b x) {d : Int} (h0 : 0 ≤ d) (h1 : d ≤ 10000) : spec_l05Until.f x.f0 x.f1 x.f2 x.f3 x.f4 x.f5 d = some (untilZ x d) := by
  obtain ⟨⟨a0, b0⟩, ⟨a1, b1⟩, -, -, -, -⟩ := hx
  unfold spec_l05Until.f untilZ
  rw [w64 (x := x.f0) (by omega) (by omega), w64 (x := d - x.f0) (by omega) (by omega)]
  by_cases h : d < x.f0
  · rw [if_pos (by omega), if_pos h]
  · have := div_bd (show 0 ≤ d - x.f0 by omega) a1
    rw [if_neg (by omega), if_neg h, w64 (x := x.f1) (by omega) (by omega), if_neg (by omega), Int.tdiv_eq_ediv_of_nonneg (by omega), w64 (x := (d - x.f0) / x.f1) (by omega) (by omega), w64 (by omega) (by omega)]
theorem specOn_eq {b : Int} {x : S38} (hx : WOk b x) {d : Int} (h0 : 0 ≤ d) (h1 : d ≤ 10000) : spec_l05On.f x.f0 x.f1 x.f2 x.f3 x.f4 x.f5 d = some (onB x d) := by
  obtain ⟨⟨a0, b0⟩, ⟨a1, b1⟩, -, -, -, -⟩ := hx
  unfold spec_l05On.f onB
  rw [w64 (x := x.f0) (by omega) (by omega), w64 (x := d - x.f0) (by omega) (by omega), w64 (x := x.f1) (by omega) (by omega)]
  by_cases h : x.f0 ≤ d
  · rw [if_pos (by omega), if_neg (by omega), tmod_nn (by omega)]; simp [h]; rfl
  · rw [if_neg (by omega)]; simp [h]
theorem untilZ_bd {b : Int} {x : S38} (hx : WOk b x) {d : Int} (h0 : 0 ≤ d) (h1 : d ≤ 10000) : 0 ≤ untilZ x d ∧ untilZ x d ≤ 10001 := by
  have a0 := hx.h0
  have a1 := hx.h1
  unfold untilZ
  split
  · omega
  · have := div_bd (show 0 ≤ d - x.f0 by omega) a1.1; omega
theorem div_succ {e m : Int} (hm : 1 ≤ m) : (e + 1) / m = e / m + (if (e + 1) % m = 0 then 1 else 0) := by
  have h1 := Int.emod_add_mul_ediv e m
  have h2 := Int.emod_nonneg e (show m ≠ 0 by omega)
  have h3 := Int.emod_lt_of_pos e (show 0 < m by omega)
  have e1 : e + 1 = (e % m + 1) + m * (e / m) := by omega
  have e2 : (e + 1) / m = (e % m + 1) / m + e / m := by conv => lhs; rw [e1]
                                                        rw [Int.add_mul_ediv_left _ _ (by omega)]
  have e3 : (e + 1) % m = (e % m + 1) % m := by conv => lhs; rw [e1]
                                                rw [Int.add_mul_emod_self_left]
  rw [e2, e3]
  by_cases h : e % m + 1 = m
  · rw [h, Int.ediv_self (by omega), Int.emod_self]; simp; omega
  · rw [Int.ediv_eq_zero_of_lt (by omega) (by omega), Int.emod_eq_of_lt (by omega) (by omega), if_neg (by omega)]; omega
theorem until_succ {b : Int} {x : S38} (hx : WOk b x) (d : Int) : untilZ x (d + 1) = untilZ x d + onZ x (d + 1) := by
  have a1 := hx.h1
  unfold untilZ onZ onB
  by_cases h : d + 1 < x.f0
  · rw [if_pos h, if_pos (by omega), if_neg (by simp; omega)]; rfl
  · by_cases h2 : d < x.f0
    · have : d + 1 - x.f0 = 0 := by omega
      rw [if_neg h, if_pos h2, this]; simp; omega
    · rw [if_neg h, if_neg h2, show d + 1 - x.f0 = (d - x.f0) + 1 by omega, div_succ a1.1]
      have : x.f0 ≤ d + 1 := by omega
      simp [this]; omega
/-- The reference's row after all walks until a day, and after one day more. -/
theorem row_step0 (x : S38) (s : List Int) (hs : ∀ y ∈ s, 0 ≤ y ∧ y ≤ 7) : rowBy (fun _ => 0) [x] s = s := by
  refine ext_rd (rowBy_len _ _ _) (fun i hi => ?_)
  rw [rowBy_len] at hi
  have := hs _ (List.getElem_mem hi)
  rw [rowBy_rd hi, sumAt, sumAt, rd_lt hi]; omega
theorem specBehind_ev {r : List Int} {ws : List S38} {d : Int} (hb : 1 ≤ r.length) (hb1 : r.length ≤ 60) (hr : ∀ y ∈ r, 0 ≤ y ∧ y ≤ 7) (hw : ∀ x ∈ ws, WOk r.length x) (h8 : ws.length ≤ 8) (h0 : 0 ≤ d) (h1 : d ≤ 10000) :
    Ev (fun k => spec_l05Behind.f k r ws d) (rowBy (fun x => onZ x d) ws r) := by
  have key := Ev.loop (fun k (s : List Int) i => spec_l05Behind.l0 k ws d s i) ws.length (fun i s => s.length = r.length ∧ (∀ y ∈ s, 0 ≤ y ∧ y ≤ 7) ∧ rowBy (fun x => onZ x d) (ws.drop i) s = rowBy (fun x => onZ x d) ws r) (rowBy (fun x => onZ x d) ws r) ?_ ?_ ws.length 0 r (by omega) (by simpa using hr)
  · refine Ev.congr (fun k => ?_) key
    simp only [spec_l05Behind.f, Option.bind_some]
    rw [if_pos (by simp; omega)]; simp
  · rintro i s hi ⟨hl, hs, he⟩
    have hmem : rd_T38 ws i ∈ ws := by simp [rd_T38, hi]
    have hx := hw _ hmem
    rw [drop_rdW hi] at he
    refine ⟨rowBy (fun _ => onZ (rd_T38 ws i) d) [rd_T38 ws i] s, ⟨by rw [rowBy_len]; exact hl, rowBy_bd _ _ _, by rw [rowBy_cons (fun x => onZ x d)]; exact he⟩, fun h => ?_⟩
    by_cases hon : onB (rd_T38 ws i) d = true
    · have e1 : onZ (rd_T38 ws i) d = 1 := by simp [onZ, hon]
      rw [e1] at h
      refine Ev.step (f := fun k => (spec_l05Turned.f k s (rd_T38 ws i).f0 (rd_T38 ws i).f1 (rd_T38 ws i).f2 (rd_T38 ws i).f3 (rd_T38 ws i).f4 (rd_T38 ws i).f5 1).bind fun t => spec_l05Behind.l0 k ws d t ((i : Int) + 1)) (fun k => ?_) (Ev.bind (specTurned_ev (by omega) (by omega) (fun y hy => by have := hs y hy; omega) (by rw [hl]; exact hx)) h)
      simp only [spec_l05Behind.l0]
      rw [if_pos (by omega), if_pos (by omega), specOn_eq hx h0 h1, w64 (by omega) (by omega)]; simp [hon]
    · have e1 : onZ (rd_T38 ws i) d = 0 := by simp [onZ, hon]
      rw [e1, row_step0 _ _ hs] at h
      refine Ev.step (fun k => ?_) h
      simp only [spec_l05Behind.l0]
      rw [if_pos (by omega), if_pos (by omega), specOn_eq hx h0 h1, w64 (by omega) (by omega)]; simp [hon]
  · rintro s ⟨hl, hs, he⟩
    rw [List.drop_length, rowBy_nil _ _ hs] at he
    refine Ev.one (fun k => ?_)
    simp only [spec_l05Behind.l0]
    rw [if_neg (by omega), he]
theorem specWhole_ev {r : List Int} {ws : List S38} {d : Int} (hb : 1 ≤ r.length) (hb1 : r.length ≤ 60) (hr : ∀ y ∈ r, 0 ≤ y ∧ y ≤ 7) (hw : ∀ x ∈ ws, WOk r.length x) (h8 : ws.length ≤ 8) (h0 : 0 ≤ d) (h1 : d ≤ 10000) :
    Ev (fun k => spec_l05Whole.f k r ws d) (rowBy (fun x => untilZ x d) ws r) := by
  have key := Ev.loop (fun k (s : List Int) i => spec_l05Whole.l0 k ws d s i) ws.length (fun i s => s.length = r.length ∧ (∀ y ∈ s, 0 ≤ y ∧ y ≤ 7) ∧ rowBy (fun x => untilZ x d) (ws.drop i) s = rowBy (fun x => untilZ x d) ws r) (rowBy (fun x => untilZ x d) ws r) ?_ ?_ ws.length 0 r (by omega) (by simpa using hr)
  · refine Ev.congr (fun k => ?_) key
    simp only [spec_l05Whole.f, Option.bind_some]
    rw [if_pos (by simp; omega)]; simp
  · rintro i s hi ⟨hl, hs, he⟩
    have hmem : rd_T38 ws i ∈ ws := by simp [rd_T38, hi]
    have hx := hw _ hmem
    rw [drop_rdW hi] at he
    refine ⟨rowBy (fun _ => untilZ (rd_T38 ws i) d) [rd_T38 ws i] s, ⟨by rw [rowBy_len]; exact hl, rowBy_bd _ _ _, by rw [rowBy_cons (fun x => untilZ x d)]; exact he⟩, fun h => ?_⟩
    refine Ev.step (f := fun k => (spec_l05Turned.f k s (rd_T38 ws i).f0 (rd_T38 ws i).f1 (rd_T38 ws i).f2 (rd_T38 ws i).f3 (rd_T38 ws i).f4 (rd_T38 ws i).f5 (untilZ (rd_T38 ws i) d)).bind fun t => spec_l05Whole.l0 k ws d t ((i : Int) + 1)) (fun k => ?_) (Ev.bind (specTurned_ev (by omega) (by omega) (fun y hy => by have := hs y hy; omega) (by rw [hl]; exact hx)) h)
    simp only [spec_l05Whole.l0]
    rw [if_pos (by omega), if_pos (by omega), specUntil_eq hx h0 h1, w64 (by omega) (by omega)]; simp
  · rintro s ⟨hl, hs, he⟩
    rw [List.drop_length, rowBy_nil _ _ hs] at he
    refine Ev.one (fun k => ?_)
    simp only [spec_l05Whole.l0]
    rw [if_neg (by omega), he]
/-- The program's row on a day. -/
theorem implRowOn_ev {r : List Int} {ws : List S38} {d : Int} (hb : 1 ≤ r.length) (hb1 : r.length ≤ 60) (hr : ∀ y ∈ r, 0 ≤ y ∧ y ≤ 255) (hw : ∀ x ∈ ws, WOk r.length x) (h8 : ws.length ≤ 8) (h0 : 0 ≤ d) (h1 : d ≤ 10000) :
    Ev (fun k => impl_rowOn.f k r ws d) (rowBy (fun x => untilZ x d) ws r) := by
  have hu : ∀ x ∈ ws, untilT x d = untilZ x d := fun x hx => by unfold untilT; rw [untilO_eq (hw x hx) h0 h1]; rfl
  rw [← rowBy_cong (fun x => untilT x d) (fun x => untilZ x d) ws r hu]
  refine Ev.congr (fun k => ?_) (walked_ev hb hb1 hr (fun x => untilT x d) ws h8 hw (fun x hx => by
    have := untilZ_bd (hw x hx) h0 h1; simp only [hu x hx]; omega))
  unfold impl_rowOn.f
  rw [if_pos (List.all_eq_true.mpr fun x hx => by rw [untilO_eq (hw x hx) h0 h1]; rfl)]
end Go.Proofs.Ytmheflciiodhdaa.P
/- UprightDays: the program's list of days and the reference's are the same. -/
namespace Go.Proofs.Ytmheflciiodhdaa.P
open Go.RowKit Go.Proofs.YtmheflciiodhdaaW.PrintWords Go.Proofs.YtmheflciiodhdaaW.PrintLast Go.Proofs.YtmheflciiodhdaaW.PrintMore
def rowAt (ws : List S38) (r : List Int) (d : Int) : List Int := rowBy (fun x => untilZ x d) ws r
def outList (ws : List S38) (r : List Int) : Nat → Int → List Int → List Int
  | 0, _, acc => acc
  | n + 1, d, acc => outList ws r n (d + 1) (if notUpright (rowAt ws r d) = true then acc else acc ++ [d])
theorem outList_len (ws : List S38) (r : List Int) : ∀ (n : Nat) (d : Int) (acc : List Int), (outList ws r n d acc).length ≤ acc.length + n
  | 0, _, _ => by simp [outList]
  | n + 1, d, acc => by
    have := outList_len ws r n (d + 1) (if notUpright (rowAt ws r d) = true then acc else acc ++ [d])
    simp only [outList]
    refine Nat.le_trans this ?_
    split <;> simp <;> omega
theorem rowAt_len (ws : List S38) (r : List Int) (d : Int) : (rowAt ws r d).length = r.length := rowBy_len _ _ _
theorem specUpright_ev (l : List Int) (hn : l.length ≤ 1048576) : Ev (fun k => spec_l05Upright.f k l) (!(notUpright l)) := by
  have key : ∀ (d i : Nat), i + d = l.length → Ev (fun k => spec_l05Upright.l0 k l (i : Int)) (!((l.drop i).any fun x => x != 0)) := by
    intro d
    induction d with
    | zero =>
      intro i hi
      refine Ev.one (fun k => ?_)
      simp only [spec_l05Upright.l0]
      rw [if_neg (by omega), List.drop_eq_nil_of_le (by omega)]; simp
    | succ d ih =>
      intro i hi
      have hlt : i < l.length := by omega
      have e := List.drop_eq_getElem_cons hlt
      by_cases h : rd l (i : Int) = 0
      · refine Ev.step (f := fun k => spec_l05Upright.l0 k l ((i + 1 : Nat) : Int)) (fun k => ?_) ?_
        · simp only [spec_l05Upright.l0]
          rw [if_pos (by omega), if_pos (by omega), if_pos h, w64 (by omega) (by omega)]; simp
        · have := ih (i + 1) (by omega)
          rw [e]
          rw [rd_lt hlt] at h
          simpa only [List.any_cons, h, bne_self_eq_false, Bool.false_or] using this
      · refine Ev.one (fun k => ?_)
        simp only [spec_l05Upright.l0]
        rw [if_pos (by omega), if_pos (by omega), if_neg h, e]
        rw [rd_lt hlt] at h
        simp only [List.any_cons, bne_iff_ne.mpr h, Bool.true_or, Bool.not_true]
  exact key l.length 0 (by omega)
theorem specDays_ev {r : List Int} {ws : List S38} {a b : Int} (hb : 1 ≤ r.length) (hb1 : r.length ≤ 60) (hw : ∀ x ∈ ws, WOk r.length x) (h8 : ws.length ≤ 8) (h0 : 0 ≤ a) (h1 : b ≤ 10000) :
    ∀ (n : Nat) (d : Int) (acc row : List Int), b + 1 = d + n → a ≤ d → (d = a → row = rowAt ws r a) → (a < d → row = rowAt ws r (d - 1)) → acc.length + n ≤ 1000000 →
      Ev (fun k => spec_UprightDays.l0 k ws a b acc row d) (outList ws r n d acc, 0)
  | 0, d, acc, row, hn, had, e0, e1, hacc => Ev.one (fun k => by simp only [spec_UprightDays.l0]; rw [if_neg (by omega)]; rfl)
  | n + 1, d, acc, row, hn, had, e0, e1, hacc => by
    have ih := fun acc' hacc' => specDays_ev (a := a) (b := b) hb hb1 hw h8 h0 h1 n (d + 1) acc' (rowAt ws r d) (by omega) (by omega) (fun h => by omega) (fun h => by rw [show d + 1 - 1 = d by omega]) hacc'
    have hup := specUpright_ev (rowAt ws r d) (by rw [rowAt_len]; omega)
    have hgo : Ev (fun k => (spec_l05Upright.f k (rowAt ws r d)).bind fun t => if t = true then (if acc.length < 17592186044416 then spec_UprightDays.l0 k ws a b (acc ++ [d]) (rowAt ws r d) (wrap64 (d + 1)) else none) else spec_UprightDays.l0 k ws a b acc (rowAt ws r d) (wrap64 (d + 1))) (outList ws r (n + 1) d acc, 0) := by
      refine Ev.bind hup ?_
      rw [w64 (by omega) (by omega)]
      simp only [outList, show acc.length < 17592186044416 by omega, if_true]
      cases hnu : notUpright (rowAt ws r d)
      · simpa using ih (acc ++ [d]) (by simp; omega)
      · simpa using ih acc (by omega)
    by_cases had' : d > a
    · refine Ev.step (f := fun k => (spec_l05Behind.f k row ws d).bind fun t306 => ((spec_l05Upright.f k t306).bind fun t309 => (if t309 = true then (if acc.length < 17592186044416 then (spec_UprightDays.l0 k ws a b (acc ++ [d]) t306 (wrap64 (d + 1))) else (none)) else (spec_UprightDays.l0 k ws a b acc t306 (wrap64 (d + 1)))))) (fun k => ?_) (Ev.bind (a := rowAt ws r d) ?_ hgo)
      · simp only [spec_UprightDays.l0]
        rw [if_pos (by omega), if_pos (by omega)]
      · rw [e1 (by omega)]
        have := specBehind_ev (r := rowAt ws r (d - 1)) (ws := ws) (d := d) (by rw [rowAt_len]; exact hb) (by rw [rowAt_len]; exact hb1) (rowBy_bd _ _ _) (by rw [rowAt_len]; exact hw) h8 (by omega) (by omega)
        rw [rowAt, rowBy_rowBy (fun x => untilZ x (d - 1)) (fun x => onZ x d) (fun x => untilZ x d) ws r (fun x hx => by
          have := until_succ (hw x hx) (d - 1)
          rwa [show d - 1 + 1 = d by omega] at this)] at this
        exact this
    · obtain rfl : d = a := by omega
      rw [e0 rfl]
      refine Ev.step (fun k => ?_) hgo
      simp only [spec_UprightDays.l0]
      rw [if_pos (by omega), if_neg (by omega)]
theorem implDays_ev {r : List Int} {ws : List S38} (hb : 1 ≤ r.length) (hb1 : r.length ≤ 60) (hr : ∀ y ∈ r, 0 ≤ y ∧ y ≤ 255) (hw : ∀ x ∈ ws, WOk r.length x) (h8 : ws.length ≤ 8) :
    ∀ (n : Nat) (d : Int) (acc : List Int), 0 ≤ d → d + n ≤ 10001 → Ev (fun k => upList k r ws n d acc) (outList ws r n d acc)
  | 0, d, acc, _, _ => Ev.pure acc
  | n + 1, d, acc, h0, h1 => by
    refine Ev.congr (fun k => rfl) (Ev.bind (implRowOn_ev hb hb1 hr hw h8 h0 (by omega)) (f := fun k t => upList k r ws n (d + 1) (if notUpright t = true then acc else acc ++ [d])) ?_)
    exact implDays_ev hb hb1 hr hw h8 n (d + 1) _ (by omega) (by omega)
/-- Both tell the same. -/
theorem upright_both (r : List Int) (ws : List S38) (a b : Int) (hr : ∀ x ∈ r, 0 ≤ x ∧ x ≤ 255) (ht : ∀ x ∈ ws, WT x) (hn : r.length ≤ 1048576) (hm : ws.length ≤ 1048576) :
    ∃ o c, o.length ≤ 1048576 ∧ Ev (fun k => spec_UprightDays.f k r ws a b) (o, c) ∧ Ev (fun k => impl_UprightDays.f k r ws a b) (o, c) := by
  by_cases hc : spanC (rowOkB r ws) a b = 0
  · have hcc : codeB (rowOkB r ws) (fromB a b) = 0 := by
      unfold spanC at hc; split at hc
      · assumption
      · exact hc
    have hlen : b - a + 1 ≤ 400 := by
      unfold spanC at hc; rw [if_pos hcc] at hc
      split at hc <;> omega
    obtain ⟨hok, hfr⟩ := codeB_zero.mp hcc
    simp only [rowOkB, Bool.and_eq_true] at hok
    have hfr := fromB_iff.mp hfr
    obtain ⟨r1, r2, r3⟩ := row_of_valid hr hok.1
    obtain ⟨-, h8, hw⟩ := WOk_of_valid ht hok.2
    refine ⟨outList ws r (b + 1 - a).toNat a [], 0, ?_, ?_, ?_⟩
    · have := outList_len ws r (b + 1 - a).toNat a []
      simp at this; omega
    · have hgo := specDays_ev (r := r) (ws := ws) (a := a) (b := b) (by omega) (by omega) hw h8 (by omega) (by omega) (b + 1 - a).toNat a [] (rowAt ws r a) (by omega) (by omega) (fun _ => rfl) (fun h => by omega) (by simp; omega)
      have hwh := specWhole_ev (r := r) (ws := ws) (d := a) (by omega) (by omega) r3 hw h8 (by omega) (by omega)
      have := Ev.bind (specRow_ev r ws (fromB a b) hn hm) (f := fun k t301 => (spec_l05Span.f t301 a b).bind fun t302 => if t302 = 0 then ((spec_l05Whole.f k r ws a).bind fun t303 => spec_UprightDays.l0 k ws a b [] t303 a) else some ([], t302)) (r := (outList ws r (b + 1 - a).toNat a [], 0)) (by
        simp only [l05Span_eq, Option.bind_some, hc, if_true]
        exact Ev.bind hwh hgo)
      refine Ev.congr (fun k => ?_) this
      simp only [spec_UprightDays.f, l05From_eq, Option.bind_some]
    · have := Ev.bind (spanCode_ev (rowOkB r ws) a b) (f := fun k c => if c = 0 then (if 0 ≤ a ∧ b ≤ 10000 then (upList k r ws (b + 1 - a).toNat a []).bind fun t => some (t, (0 : Int)) else none) else some ([], c)) (r := (outList ws r (b + 1 - a).toNat a [], 0)) (by
        simp only [hc, if_true, show 0 ≤ a ∧ b ≤ 10000 from ⟨by omega, by omega⟩, and_self]
        exact Ev.bind (implDays_ev (by omega) (by omega) hr hw h8 _ _ _ (by omega) (by omega)) (Ev.pure _))
      exact Ev.congr (fun k => rfl) this
  · refine ⟨[], spanC (rowOkB r ws) a b, by simp, ?_, ?_⟩
    · have := Ev.bind (specRow_ev r ws (fromB a b) hn hm) (f := fun k t301 => (spec_l05Span.f t301 a b).bind fun t302 => if t302 = 0 then ((spec_l05Whole.f k r ws a).bind fun t303 => spec_UprightDays.l0 k ws a b [] t303 a) else some ([], t302)) (r := ([], spanC (rowOkB r ws) a b)) (by
        simp only [l05Span_eq, Option.bind_some, if_neg hc]
        exact Ev.pure _)
      refine Ev.congr (fun k => ?_) this
      simp only [spec_UprightDays.f, l05From_eq, Option.bind_some]
    · have := Ev.bind (spanCode_ev (rowOkB r ws) a b) (f := fun k c => if c = 0 then (if 0 ≤ a ∧ b ≤ 10000 then (upList k r ws (b + 1 - a).toNat a []).bind fun t => some (t, (0 : Int)) else none) else some ([], c)) (r := ([], spanC (rowOkB r ws) a b)) (by
        simp only [if_neg hc]
        exact Ev.pure _)
      exact Ev.congr (fun k => rfl) this
theorem FnExactUprightDays_true (l0 : List Int) (l1 : List S94) (a b : Int) (hr : ∀ x ∈ l0, 0 ≤ x ∧ x ≤ 255) (ht : ∀ x ∈ l1, WT (convW x)) (hlen : l1.length ≤ 9223372036854775807) : Ev (fun k => laws_FnExactUprightDays.f k l0 l1 a b) true := by
  unfold laws_FnExactUprightDays.f
  by_cases hn : (l0.length : Int) > 1048576
  · exact Ev.some (fun k => by rw [if_pos hn])
  obtain ⟨bud, hbud⟩ := szWalkerS_ex l1
  simp only [if_neg hn, hbud, Option.bind_some]
  by_cases hm : bud < 0
  · exact Ev.some (fun k => by rw [if_pos hm])
  simp only [if_neg hm]
  have hmm := szWalkerS_some l1 hlen bud hbud hm
  have hrow := toRow_ev l0 (by omega)
  have hws := toWalkerS_ev l1 hmm
  obtain ⟨o, c, ho, hs, hi⟩ := upright_both l0 (l1.map convW) a b hr (by simpa using ht) (by omega) (by simpa using hmm)
  obtain ⟨y1, hm1⟩ := markRow_ev l0 1 (by omega) (by omega) (by omega)
  obtain ⟨y2, hm2⟩ := markWalkerS_ev (l1.map convW) (1 + l0.length) (by omega) (by omega) (by simpa using hmm)
  have hh := heldInt64S_ev o.length (by omega)
  refine Ev.bind hrow (Ev.bind hws (Ev.bind hs (Ev.bind hrow (Ev.bind hws (Ev.bind hi (Ev.bind (eqInt64S_ev o ho) ?_))))))
  simp only [bne_self_eq_false, if_true]
  refine Ev.step (fun k => by rw [laws_FnExactUprightDays.j0, if_neg (by decide)]) ?_
  refine Ev.bind hrow (Ev.bind (eqRow_ev l0 (by omega)) ?_)
  simp only [if_true]
  refine Ev.bind hws (Ev.bind (eqWalkerS_ev _ (by simpa using hmm)) ?_)
  simp only [if_true]
  refine Ev.bind hm1 (Ev.bind hm2 ?_)
  simp only [show ¬ (1 + (l0.length : Int) + 6 * ((l1.map convW).length : Int) < 0) by omega, if_false]
  refine Ev.bind (eqInt64S_ev o ho) ?_
  simp only [bne_self_eq_false, if_true]
  refine Ev.step (fun k => by rw [laws_FnExactUprightDays.j1, if_neg (by decide)]) ?_
  refine Ev.bind (markInt64S_ev o ho) (Ev.bind hh ?_)
  simp only [show ¬ (1 + (o.length : Int) < 0) by omega, if_false, if_true]
  refine Ev.bind hrow (Ev.bind hws (Ev.bind hi (Ev.bind (eqInt64S_ev o ho) ?_)))
  simp only [bne_self_eq_false, if_true]
  refine Ev.step (fun k => by rw [laws_FnExactUprightDays.j2, if_neg (by decide)]) ?_
  refine Ev.bind hh ?_
  simp only [show ¬ (1 + (o.length : Int) < 0) by omega, if_false, if_true]
  exact Ev.pure _
theorem FnExactUprightDays_ev (a0 : List Int) (a1 : List S94) (a2 : Int) (a3 : Int) (g0 : (∀ x ∈ a0, (0 ≤ x ∧ x ≤ 255))) (b0 : a0.length ≤ 9223372036854775807) (g1 : (∀ x ∈ a1, (-32768 ≤ x.f0 ∧ x.f0 ≤ 32767) ∧ (-32768 ≤ x.f1 ∧ x.f1 ≤ 32767) ∧ (-32768 ≤ x.f2 ∧ x.f2 ≤ 32767) ∧ (-32768 ≤ x.f3 ∧ x.f3 ≤ 32767) ∧ (-32768 ≤ x.f4 ∧ x.f4 ≤ 32767) ∧ (-128 ≤ x.f5 ∧ x.f5 ≤ 127))) (b1 : a1.length ≤ 9223372036854775807) (g2 : (-9223372036854775808 ≤ a2 ∧ a2 ≤ 9223372036854775807)) (g3 : (-9223372036854775808 ≤ a3 ∧ a3 ≤ 9223372036854775807)) : Ev (fun k => laws_FnExactUprightDays.f k a0 a1 a2 a3) true :=
  FnExactUprightDays_true a0 a1 a2 a3 g0 (fun x hx => by obtain ⟨h0, h1, h2, h3, h4, h5⟩ := g1 x hx; exact ⟨h0, h1, h2, h3, h4, h5⟩) b1
end Go.Proofs.Ytmheflciiodhdaa.P
/- The row of the law FnExactUprightDays, out of its contract and its plain statement. Written by wip/tools/mkrow.py of this repo. -/
namespace Go.Proofs.Ytmheflciiodhdaa.fnExactUprightDays
open Go.ChangeShapes Go.WideShapes Go.ChangeAt Go.RowKit
open Go.ChangeMaps (open_string shut_string)
open Go.Proofs.Ytmheflciiodhdaa.P Go.Proofs.YtmheflciiodhdaaW.PrintWords Go.Proofs.YtmheflciiodhdaaW.PrintLast Go.Proofs.YtmheflciiodhdaaW.PrintMore
set_option linter.unusedVariables false
theorem own : ownKnob Try.prog.godebug = none := by kernel_rfl
theorem laidOut : laidOutB Try.prog = true := by kernel_rfl
def good94 (x : S94) : Prop := (fun n : Int => (IntKind.i16).min ≤ n ∧ n ≤ (IntKind.i16).max) x.f0 ∧ (fun n : Int => (IntKind.i16).min ≤ n ∧ n ≤ (IntKind.i16).max) x.f1 ∧ (fun n : Int => (IntKind.i16).min ≤ n ∧ n ≤ (IntKind.i16).max) x.f2 ∧ (fun n : Int => (IntKind.i16).min ≤ n ∧ n ≤ (IntKind.i16).max) x.f3 ∧ (fun n : Int => (IntKind.i16).min ≤ n ∧ n ≤ (IntKind.i16).max) x.f4 ∧ (fun n : Int => (IntKind.i8).min ≤ n ∧ n ≤ (IntKind.i8).max) x.f5
set_option maxRecDepth 100000 in
theorem opens94 : Opens Try.prog k94 94 good94 := by
  intro H enc W base fuel held cs x h
  obtain ⟨xs, n, _, _, hl, hlen, hf⟩ := DataW.trod_struct Try.underlying94 h
  rw [show Try.prog.cellsOf 94 = 6 from by kernel_rfl] at hl
  match xs, hlen, cs, hl with
  | [y0, y1, y2, y3, y4, y5], _, [v0, v1, v2, v3, v4, v5], _ =>
    have g0 : DataW.trod enc Try.prog W base (fun _ => true) held n 35 (([v0, v1, v2, v3, v4, v5].drop 0).take (Try.prog.cellsOf 35)) = some y0 := hf 0 _ rfl
    rw [show Try.prog.cellsOf 35 = 1 from by kernel_rfl] at g0
    obtain ⟨u0, e0, b0⟩ := (Opens.int Try.underlying35) H enc W base n held [v0] y0 (by simpa using g0)
    have g1 : DataW.trod enc Try.prog W base (fun _ => true) held n 35 (([v0, v1, v2, v3, v4, v5].drop 1).take (Try.prog.cellsOf 35)) = some y1 := hf 1 _ rfl
    rw [show Try.prog.cellsOf 35 = 1 from by kernel_rfl] at g1
    obtain ⟨u1, e1, b1⟩ := (Opens.int Try.underlying35) H enc W base n held [v1] y1 (by simpa using g1)
    have g2 : DataW.trod enc Try.prog W base (fun _ => true) held n 35 (([v0, v1, v2, v3, v4, v5].drop 2).take (Try.prog.cellsOf 35)) = some y2 := hf 2 _ rfl
    rw [show Try.prog.cellsOf 35 = 1 from by kernel_rfl] at g2
    obtain ⟨u2, e2, b2⟩ := (Opens.int Try.underlying35) H enc W base n held [v2] y2 (by simpa using g2)
    have g3 : DataW.trod enc Try.prog W base (fun _ => true) held n 35 (([v0, v1, v2, v3, v4, v5].drop 3).take (Try.prog.cellsOf 35)) = some y3 := hf 3 _ rfl
    rw [show Try.prog.cellsOf 35 = 1 from by kernel_rfl] at g3
    obtain ⟨u3, e3, b3⟩ := (Opens.int Try.underlying35) H enc W base n held [v3] y3 (by simpa using g3)
    have g4 : DataW.trod enc Try.prog W base (fun _ => true) held n 35 (([v0, v1, v2, v3, v4, v5].drop 4).take (Try.prog.cellsOf 35)) = some y4 := hf 4 _ rfl
    rw [show Try.prog.cellsOf 35 = 1 from by kernel_rfl] at g4
    obtain ⟨u4, e4, b4⟩ := (Opens.int Try.underlying35) H enc W base n held [v4] y4 (by simpa using g4)
    have g5 : DataW.trod enc Try.prog W base (fun _ => true) held n 36 (([v0, v1, v2, v3, v4, v5].drop 5).take (Try.prog.cellsOf 36)) = some y5 := hf 5 _ rfl
    rw [show Try.prog.cellsOf 36 = 1 from by kernel_rfl] at g5
    obtain ⟨u5, e5, b5⟩ := (Opens.int Try.underlying36) H enc W base n held [v5] y5 (by simpa using g5)
    obtain rfl : v0 = .int .i16 u0 := by simpa using (show [v0] = [Value.int .i16 u0] from e0)
    obtain rfl : v1 = .int .i16 u1 := by simpa using (show [v1] = [Value.int .i16 u1] from e1)
    obtain rfl : v2 = .int .i16 u2 := by simpa using (show [v2] = [Value.int .i16 u2] from e2)
    obtain rfl : v3 = .int .i16 u3 := by simpa using (show [v3] = [Value.int .i16 u3] from e3)
    obtain rfl : v4 = .int .i16 u4 := by simpa using (show [v4] = [Value.int .i16 u4] from e4)
    obtain rfl : v5 = .int .i8 u5 := by simpa using (show [v5] = [Value.int .i8 u5] from e5)
    exact ⟨⟨u0, u1, u2, u3, u4, u5⟩, k94_mk W _, ⟨b0, b1, b2, b3, b4, b5⟩⟩
set_option maxRecDepth 100000 in
theorem lifted (os : Os) (started : os.Started) (H : Type) (enc : TypeId × Value → H) :
    ReturnsInHanded {} Try.checked os 4 .any (Rows.fnExactUprightDaysSpec.pre6 enc Try.prog Try.f4 Rows.fnExactUprightDaysRow.domain false) (Rows.fnExactUprightDaysSpec.post enc Try.prog Try.f4 false true false false) := by
  refine returnsInHanded_of_change_sized (C := Try.checked) own started (by kernel_rfl) Try.func4
    (ChangeSpec.witness6 (enc := enc) (C := Try.checked) false ⟨#[], #[.slice none 0 0, .slice none 0 0, .int .i64 0, .int .i64 0], []⟩ 8 (by kernel_rfl) (by kernel_rfl) (by kernel_rfl) (by kernel_rfl)) ?_
  intro W base args ds gs before hval0 hW hcnd hsz0 _
  have hsz : (DataW.weightsEach Try.prog (Try.f4.params.toList ++ Rows.fnExactUprightDaysSpec.plain.varTypes Try.prog) (ds ++ gs)).all (· ≤ reachBytes) = true := hsz0
  have hval : ∀ (j : Nat) t v, Try.f4.params[j]? = some t → args[j]? = some v → Value.okWide Try.prog W .any base t v := hval0
  have hW' := hW
  obtain ⟨p, q, hA0, hV, rfl, hfz, hnd⟩ := hW
  have hA : DataW.TrodAll enc Try.prog W 0 (fun _ => true) true Try.f4.params.toList args.toList ds p := hA0
  rw [Try.params4] at hA hval hsz
  obtain ⟨v0, vs0, d0, ds0, p0, q0, hargs, rfl, rfl, h0, r0⟩ := trodAll_cons hA
  obtain ⟨v1, vs1, d1, ds1, p1, q1, rfl, rfl, rfl, h1, r1⟩ := trodAll_cons r0
  obtain ⟨v2, vs2, d2, ds2, p2, q2, rfl, rfl, rfl, h2, r2⟩ := trodAll_cons r1
  obtain ⟨v3, vs3, d3, ds3, p3, q3, rfl, rfl, rfl, h3, r3⟩ := trodAll_cons r2
  obtain ⟨rfl, rfl, rfl⟩ := trodAll_nil r3
  obtain rfl : args = #[v0, v1, v2, v3] := by cases args; simp_all
  obtain ⟨rfl, rfl⟩ := trodVars_none hV
  obtain ⟨a0, len0, cap0, rfl⟩ := okWide_slice Try.underlying22 (hval 0 22 v0 rfl rfl)
  have k0 := h0
  have lt0 : ∀ x ∈ p0, x.block < W.heap.size := by obtain ⟨m, hm⟩ := k0; exact DataW.trod_lt m _ _ _ hm
  obtain ⟨z0, rfl, c0, b0, w0, g0⟩ := Opens.arg (Opens.slice Try.underlying22 (by kernel_rfl) (Opens.int Try.underlying5)) h0
  obtain ⟨a1, len1, cap1, rfl⟩ := okWide_slice Try.underlying45 (hval 1 45 v1 rfl rfl)
  have k1 := h1
  have lt1 : ∀ x ∈ p1, x.block < W.heap.size := by obtain ⟨m, hm⟩ := k1; exact DataW.trod_lt m _ _ _ hm
  obtain ⟨z1, rfl, c1, b1, w1, g1⟩ := Opens.arg (Opens.slice Try.underlying45 (by kernel_rfl) opens94) h1
  obtain ⟨a2, rfl, rfl, rfl, w2⟩ := open_int Try.underlying2 (hval 2 2 v2 rfl rfl) h2
  obtain ⟨a3, rfl, rfl, rfl, w3⟩ := open_int Try.underlying2 (hval 3 2 v3 rfl rfl) h3
  clear hA0 hval0 hsz0 hsz
  obtain ⟨k, hk⟩ := (FnExactUprightDays_ev z0 z1 a2 a3 g0 b0 g1 b1 (wf_mm (k := .i64) (n := a2) w2) (wf_mm (k := .i64) (n := a3) w3)).rounds
  refine (laws_FnExactUprightDays.calls k a0 cap0 z0 a1 cap1 z1 a2 a3 true W w0 c0 w1 c1 hk).mono fun e W' ⟨he, bel⟩ => ?_
  subst he
  exact ⟨_, rfl, _, _, _, [], _, [], hW', trodAll_mk1 (shut_bool Try.underlying4 _), (trodAll_cons_mk (Below.trod laidOut (by kernel_rfl) (of_decide_eq_true (by kernel_rfl)) k0 bel lt0) (trodAll_cons_mk (Below.trod laidOut (by kernel_rfl) (of_decide_eq_true (by kernel_rfl)) k1 bel lt1) (trodAll_cons_mk (shut_int Try.underlying2 w2) (trodAll_cons_mk (shut_int Try.underlying2 w3) trodAll_mk0)))), rfl, bel.frame _, fun h => by cases h⟩
theorem over : Rows.fnExactUprightDaysRow.holds Try.pinned (OpenSpec.ofChange Rows.fnExactUprightDaysSpec) :=
  OpenClaim.holds_of_wide 4 Try.f4 rfl rfl rfl rfl rfl rfl rfl ⟨rfl, rfl, rfl, rfl, rfl⟩ rfl rfl rfl rfl rfl (by kernel_rfl) Try.func4 (by kernel_rfl)
    (of_decide_eq_true (by kernel_rfl)) (by unfold Func.isWrapper; first | (rw [if_pos (by decide +kernel)]; kernel_rfl) | (rw [if_neg (by decide +kernel)]; exact ⟨rfl, rfl⟩))
    (fun os started H enc _ => lifted os started H enc)
theorem proved : Rows.FnExactUprightDaysSaid := over
end Go.Proofs.Ytmheflciiodhdaa.fnExactUprightDays
namespace Go.Proofs.Ytmheflciiodhdaa
/-- The row, under a short name, for the claim. -/
theorem fnExactUprightDays_holds : Rows.FnExactUprightDaysSaid := fnExactUprightDays.proved
end Go.Proofs.Ytmheflciiodhdaa
