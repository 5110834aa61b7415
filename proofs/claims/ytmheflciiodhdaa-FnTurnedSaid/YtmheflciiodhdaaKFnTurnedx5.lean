/- For every input the law FnTurned returns true: a bottle that is turned eight times by the same is as it was; days together are days one by one; who never comes turns nothing; rows are read from their texts.
   Conditions: none beyond the given statement's own. -/
import Derived.Test.YtmheflciiodhdaaKFnTurnedw22
import Derived.Test.YtmheflciiodhdaaKFnTurnedx4
import Derived.Test.YtmheflciiodhdaaKFnTurnedx2
import Derived.Test.YtmheflciiodhdaaKFnTurnedx1
import Derived.Test.YtmheflciiodhdaaKFnTurnedx3
import Derived.Test.YtmheflciiodhdaaRows
import Derived.WalkKit
import Derived.ProofKit
import Derived.OpenShut
import Derived.ShutString
import Derived.ChangeOld
import Derived.Below
import Derived.SizedLaws
-- Written by wip/tools/mkprint.py of this repo, over the kit's print, out of the translation; Lean checks it.
namespace Go.Proofs.Ytmheflciiodhdaa.P
open Go.RowKit Go.Proofs.YtmheflciiodhdaaW.PrintWords Go.Proofs.YtmheflciiodhdaaW.PrintLast Go.Proofs.YtmheflciiodhdaaW.PrintMore
attribute [local go_sem] max2_int min2_int max_two min_two max_three min_three max_four min_four   -- for this text's walks alone
set_option linter.unusedVariables false
set_option linter.unusedSimpArgs false
/-! ### impl_TurnBottle: function 52 -/
def impl_TurnBottle.j0 : Nat → List Int → Int → Int → Int → Option (List Int × Int)
  | 0, _, _, _, _ => none
  | k + 1, x0, x1, x2, x8 => if x8 = 0 then ((impl_Row_uint8_100.f x0).bind fun t706 => (if 0 ≤ x1 then (if x1 < (t706.length : Int) then ((impl_eighths.f (wrap64 ((wrap64 (rd t706 x1)) + x2))).bind fun t710 => (some ((t706.set (x1 : Int).toNat t710), 0))) else (none)) else (none))) else (some (([] : List Int), x8))
def impl_TurnBottle.f (k : Nat) (l0 : List Int) (a1 : Int) (a2 : Int) : Option (List Int × Int) := (impl_ValidRow.f l0).bind fun t701 => ((impl_within.f a1 0 (wrap64 ((l0.length : Int) - 1))).bind fun t702 => (if t702 = true then ((impl_within.f a2 (-7) 7).bind fun t703 => ((impl_codeOf.f t701 t703).bind fun t704 => (impl_TurnBottle.j0 k l0 a1 a2 t704))) else ((impl_codeOf.f t701 false).bind fun t705 => (impl_TurnBottle.j0 k l0 a1 a2 t705))))
theorem impl_TurnBottle.mono_l : ∀ k, (∀ y0 y1 y2 y3, LeO (impl_TurnBottle.j0 k y0 y1 y2 y3) (impl_TurnBottle.j0 (k + 1) y0 y1 y2 y3))
  | 0 => fun _ _ _ _ r h => by simp [impl_TurnBottle.j0] at h
  | k + 1 => by
    have ih0 := impl_TurnBottle.mono_l k
    · intro y0 y1 y2 y3
      unfold impl_TurnBottle.j0
      repeat' first
      | (with_reducible exact ih0 _ _ _ _)
      | (with_reducible exact LeO.refl _)
      | (with_reducible exact LeO.none _)
      | (with_reducible refine LeO.ite ?_ ?_)
      | (with_reducible refine LeO.bind ?_ (fun _ => ?_))
      | exact ih0 _ _ _ _
      | exact LeO.none _
      | refine LeO.ite ?_ ?_
      | refine LeO.bind ?_ (fun _ => ?_)
theorem impl_TurnBottle.mono : ∀ a0 a1 a2 k, LeO (impl_TurnBottle.f k a0 a1 a2) (impl_TurnBottle.f (k + 1) a0 a1 a2) := by
  intro a0 a1 a2 k
  have ih0 := impl_TurnBottle.mono_l k
  unfold impl_TurnBottle.f
  repeat' first
      | (with_reducible exact ih0 _ _ _ _)
      | (with_reducible exact LeO.refl _)
      | (with_reducible exact LeO.none _)
      | (with_reducible refine LeO.ite ?_ ?_)
      | (with_reducible refine LeO.bind ?_ (fun _ => ?_))
      | exact ih0 _ _ _ _
      | exact LeO.none _
      | refine LeO.ite ?_ ?_
      | refine LeO.bind ?_ (fun _ => ?_)
set_option maxHeartbeats 8000000 in
set_option maxRecDepth 100000 in
theorem impl_TurnBottle.calls (k : Nat) (A0 : Option Addr) (c0 : Nat) (l0 : List Int) (a1 : Int) (a2 : Int) (r1 : List Int) (r2 : Int) (w : World) (hr0 : Kd.C (Kd.int .u8) w A0 l0.length l0) (hc0 : l0.length ≤ c0) (h : impl_TurnBottle.f k l0 a1 a2 = some (r1, r2)) :
    Calls Try.prog 52 #[.slice A0 l0.length c0, .int .i64 a1, .int .i64 a2] w fun e w' => ∃ v0_ : Value, e = .returned (.tuple #[v0_, .int .i64 r2]) ∧ Kd.R (Kd.int .u8) 5 w' w.heap.size (fun _ => True) v0_ r1 ∧ Below w.heap.size w w' := by
  have HR0 := Aside0.mk hr0
  have HC0 := Aside0.mk hc0
  clear hr0 hc0
  have HB := Aside0.mk (Below.refl w.heap.size w)
  have H : ((impl_ValidRow.f l0).bind fun t701 => ((impl_within.f a1 0 (wrap64 ((l0.length : Int) - 1))).bind fun t702 => (if t702 = true then ((impl_within.f a2 (-7) 7).bind fun t703 => ((impl_codeOf.f t701 t703).bind fun t704 => (impl_TurnBottle.j0 k l0 a1 a2 t704))) else ((impl_codeOf.f t701 false).bind fun t705 => (impl_TurnBottle.j0 k l0 a1 a2 t705))))) = some (r1, r2) := h
  clear h
  have HC4 := Aside0.mk H
  clear H
  go_enter Try.func52, Try.ntmps52
  go_upto_region 1 with (fail)
  go_cut [8] (fun v8 wc => ∃ (kq : Nat) (x8_3 : Int), v8 = .int .i64 x8_3 ∧ Aside0 (impl_TurnBottle.j0 kq l0 a1 a2 x8_3 = some (r1, r2)) ∧ Aside0 (kq ≤ k) ∧ Aside0 (Below w.heap.size w wc))
  case first =>
    have H := HC4.out
    clear HC4
    replace H := Option.bind_eq_some_iff.mp H
    obtain ⟨t701, A50, H⟩ := H
    replace H : ((impl_within.f a1 0 (wrap64 ((l0.length : Int) - 1))).bind fun t702 => (if t702 = true then ((impl_within.f a2 (-7) 7).bind fun t703 => ((impl_codeOf.f t701 t703).bind fun t704 => (impl_TurnBottle.j0 k l0 a1 a2 t704))) else ((impl_codeOf.f t701 false).bind fun t705 => (impl_TurnBottle.j0 k l0 a1 a2 t705)))) = some (r1, r2) := H
    have A5 := Aside0.mk A50
    clear A50
    replace H := Option.bind_eq_some_iff.mp H
    obtain ⟨t702, A60, H⟩ := H
    replace H : (if t702 = true then ((impl_within.f a2 (-7) 7).bind fun t703 => ((impl_codeOf.f t701 t703).bind fun t704 => (impl_TurnBottle.j0 k l0 a1 a2 t704))) else ((impl_codeOf.f t701 false).bind fun t705 => (impl_TurnBottle.j0 k l0 a1 a2 t705))) = some (r1, r2) := H
    have A6 := Aside0.mk A60
    clear A60
    by_cases c7 : t702 = true
    · subst c7
      have H1 : ((impl_within.f a2 (-7) 7).bind fun t703 => ((impl_codeOf.f t701 t703).bind fun t704 => (impl_TurnBottle.j0 k l0 a1 a2 t704))) = some (r1, r2) := by rw [if_pos rfl] at H; exact H
      clear H
      have H := H1
      clear H1
      replace H := Option.bind_eq_some_iff.mp H
      obtain ⟨t703, A80, H⟩ := H
      replace H : ((impl_codeOf.f t701 t703).bind fun t704 => (impl_TurnBottle.j0 k l0 a1 a2 t704)) = some (r1, r2) := H
      have A8 := Aside0.mk A80
      clear A80
      replace H := Option.bind_eq_some_iff.mp H
      obtain ⟨t704, A90, H⟩ := H
      replace H : (impl_TurnBottle.j0 k l0 a1 a2 t704) = some (r1, r2) := H
      have A9 := Aside0.mk A90
      clear A90
      have H' := Aside0.mk H
      clear H
      go_wp2_with (first | ((with_reducible refine gate_callee (f := 50) rfl ?_); refine goesL_ (some 11) rfl rfl Try.func50 (by kernel_rfl) rfl #[.slice A0 l0.length c0] rfl (by (try simp only [List.map_toArray, List.map_cons, List.map_nil]); first | done | rfl | (simp only [List.length_drop, List.length_take]; rfl)) ?_; (with_reducible refine (impl_ValidRow.calls _ _ l0 t701 _ ?side1 ?side2 A5.out).mono ?_); (case side1 => repeat (first | exact (Kd.C_below HR0.out HB.out) | (with_reducible refine Kd.C_alloc ?_ _) | (with_reducible refine Kd.C_drewN ?_ _) | (with_reducible refine Kd.C_drew ?_))); (case side2 => exact HC0.out); rintro e w' ⟨rfl, ⟨nd, rfl⟩⟩; refine ⟨_, rfl, ?_⟩) | ((with_reducible refine gate_callee (f := 69) rfl ?_); refine goesL_ (some 16) rfl rfl Try.func69 (by kernel_rfl) rfl #[.int .i64 a1, .int .i64 0, .int .i64 (wrap64 ((l0.length : Int) - 1))] rfl (by (try simp only [List.map_toArray, List.map_cons, List.map_nil]); first | done | rfl | (simp only [List.length_drop, List.length_take]; rfl)) ?_; (with_reducible refine (impl_within.calls a1 0 (wrap64 ((l0.length : Int) - 1)) true _ A6.out).mono ?_); rintro e w' ⟨rfl, ⟨nd, rfl⟩⟩; refine ⟨_, rfl, ?_⟩) | (go_at_call 69; (with_reducible refine (impl_within.calls a2 (-7) 7 t703 _ A8.out).mono ?_); rintro e w' ⟨rfl, ⟨nd, rfl⟩⟩) | ((with_reducible refine gate_callee (f := 67) rfl ?_); refine goesL_ (some 21) rfl rfl Try.func67 (by kernel_rfl) rfl #[.bool t701, .bool t703] rfl (by (try simp only [List.map_toArray, List.map_cons, List.map_nil]); first | done | rfl | (simp only [List.length_drop, List.length_take]; rfl)) ?_; (with_reducible refine (impl_codeOf.calls t701 t703 t704 _ A9.out).mono ?_); rintro e w' ⟨rfl, ⟨nd, rfl⟩⟩; refine ⟨_, rfl, ?_⟩))
      go_meet
      case rel => exact ⟨_, (t704), (by first | rfl | (simp; done) | (simp [*]; done)), H', ⟨by first | omega | exact Nat.le_refl _⟩, ⟨by repeat (first | (with_reducible first | exact HB.out | apply below_alloc | apply pw_below_drewN | apply below_drew1) | exact HB.out)⟩⟩
    · replace c7 := Bool.eq_false_iff.mpr c7
      subst c7
      have H1 : ((impl_codeOf.f t701 false).bind fun t705 => (impl_TurnBottle.j0 k l0 a1 a2 t705)) = some (r1, r2) := by rw [if_neg (show ¬ (false = true) by decide)] at H; exact H
      clear H
      have H := H1
      clear H1
      replace H := Option.bind_eq_some_iff.mp H
      obtain ⟨t705, A100, H⟩ := H
      replace H : (impl_TurnBottle.j0 k l0 a1 a2 t705) = some (r1, r2) := H
      have A10 := Aside0.mk A100
      clear A100
      have H' := Aside0.mk H
      clear H
      go_wp2_with (first | ((with_reducible refine gate_callee (f := 50) rfl ?_); refine goesL_ (some 11) rfl rfl Try.func50 (by kernel_rfl) rfl #[.slice A0 l0.length c0] rfl (by (try simp only [List.map_toArray, List.map_cons, List.map_nil]); first | done | rfl | (simp only [List.length_drop, List.length_take]; rfl)) ?_; (with_reducible refine (impl_ValidRow.calls _ _ l0 t701 _ ?side1 ?side2 A5.out).mono ?_); (case side1 => repeat (first | exact (Kd.C_below HR0.out HB.out) | (with_reducible refine Kd.C_alloc ?_ _) | (with_reducible refine Kd.C_drewN ?_ _) | (with_reducible refine Kd.C_drew ?_))); (case side2 => exact HC0.out); rintro e w' ⟨rfl, ⟨nd, rfl⟩⟩; refine ⟨_, rfl, ?_⟩) | ((with_reducible refine gate_callee (f := 69) rfl ?_); refine goesL_ (some 16) rfl rfl Try.func69 (by kernel_rfl) rfl #[.int .i64 a1, .int .i64 0, .int .i64 (wrap64 ((l0.length : Int) - 1))] rfl (by (try simp only [List.map_toArray, List.map_cons, List.map_nil]); first | done | rfl | (simp only [List.length_drop, List.length_take]; rfl)) ?_; (with_reducible refine (impl_within.calls a1 0 (wrap64 ((l0.length : Int) - 1)) false _ A6.out).mono ?_); rintro e w' ⟨rfl, ⟨nd, rfl⟩⟩; refine ⟨_, rfl, ?_⟩) | ((with_reducible refine gate_callee (f := 67) rfl ?_); refine goesL_ (some 21) rfl rfl Try.func67 (by kernel_rfl) rfl #[.bool t701, .bool false] rfl (by (try simp only [List.map_toArray, List.map_cons, List.map_nil]); first | done | rfl | (simp only [List.length_drop, List.length_take]; rfl)) ?_; (with_reducible refine (impl_codeOf.calls t701 false t705 _ A10.out).mono ?_); rintro e w' ⟨rfl, ⟨nd, rfl⟩⟩; refine ⟨_, rfl, ?_⟩))
      go_meet
      case rel => exact ⟨_, (t705), (by first | rfl | (simp; done) | (simp [*]; done)), H', ⟨by first | omega | exact Nat.le_refl _⟩, ⟨by repeat (first | (with_reducible first | exact HB.out | apply below_alloc | apply pw_below_drewN | apply below_drew1) | exact HB.out)⟩⟩
  case rest =>
    clear HC4
    try clear p2
    try clear c5
    try clear c6
    try clear p6
    try clear c7
    obtain ⟨kq, x8_3, rfl, HA, HJ3, HB⟩ := hcut
    cases kq with
    | zero => exact absurd HA.out (by simp [impl_TurnBottle.j0])
    | succ kj3 =>
      have H := HA.out
      clear HA
      simp only [impl_TurnBottle.j0] at H
      by_cases c11 : x8_3 = 0
      · rw [if_pos c11] at H
        have c11b0 : (x8_3 == 0) = true := beq_iff_eq.mpr c11
        have c11b1 : (x8_3 != 0) = false := bne_eq_false_iff_eq.mpr c11
        clear c11
        replace H := Option.bind_eq_some_iff.mp H
        obtain ⟨t706, A120, H⟩ := H
        replace H : (if 0 ≤ a1 then (if a1 < (t706.length : Int) then ((impl_eighths.f (wrap64 ((wrap64 (rd t706 a1)) + a2))).bind fun t710 => (some ((t706.set (a1 : Int).toNat t710), 0))) else (none)) else (none)) = some (r1, r2) := H
        have A12 := Aside0.mk A120
        clear A120
        by_cases c13 : 0 ≤ a1
        · rw [if_pos c13] at H
          have c13b0 : decide (0 ≤ a1) = true := decide_eq_true c13
          clear c13
          by_cases c14 : a1 < (t706.length : Int)
          · rw [if_pos c14] at H
            have c14b0 : decide (a1 < (t706.length : Int)) = true := decide_eq_true c14
            clear c14
            replace H := Option.bind_eq_some_iff.mp H
            obtain ⟨t710, A150, H⟩ := H
            replace H : (some ((t706.set (a1 : Int).toNat t710), 0)) = some (r1, r2) := H
            have A15 := Aside0.mk A150
            clear A150
            obtain ⟨y711, hy711⟩ : ∃ y_ : List Int, y_ = (t706.set (a1 : Int).toNat t710) := ⟨_, rfl⟩
            replace H : (some (y711, 0)) = some (r1, r2) := by first | (rw [hy711]; with_reducible exact H) | (have H2_ := (Option.bind_some _ _).symm.trans H; rw [hy711]; with_reducible exact H2_) | (have H2_ := (Option.bind_some _ _).symm.trans H; with_reducible exact H2_) | with_reducible exact H | (rw [hy711]; exact H) | exact H
            have Ny711 := Aside0.mk hy711
            clear hy711
            simp only [Option.some.injEq, Prod.mk.injEq] at H
            obtain ⟨rfl, rfl⟩ := H
            go_wp2_with (first | ((with_reducible refine gate_callee (f := 100) rfl ?_); refine goesL_ (some 26) rfl rfl Try.func100 (by kernel_rfl) rfl #[.slice A0 l0.length c0] rfl (by (try simp only [List.map_toArray, List.map_cons, List.map_nil]); first | done | rfl | (simp only [List.length_drop, List.length_take]; rfl)) ?_; (with_reducible refine (impl_Row_uint8_100.calls _ _ l0 t706 _ ?side1 ?side2 A12.out).mono ?_); (case side1 => repeat (first | exact (Kd.C_below HR0.out HB.out) | (with_reducible refine Kd.C_alloc ?_ _) | (with_reducible refine Kd.C_drewN ?_ _) | (with_reducible refine Kd.C_drew ?_))); (case side2 => exact HC0.out); rintro e w17 ⟨v707, rfl, ho0, hb⟩; refine ⟨_, rfl, ?_⟩; have n0_ := Aside0.mk (Kd.R_lower ho0 (below_size (by repeat (first | (with_reducible first | exact HB.out | apply below_alloc | apply pw_below_drewN | apply below_drew1) | exact HB.out)))); have n1_ := Aside0.mk (below_step (by repeat (first | (with_reducible first | exact HB.out | apply below_alloc | apply pw_below_drewN | apply below_drew1) | exact HB.out)) hb); clear HB; have HO708 := n0_; have HB := n1_; clear n0_ n1_; (try clear hb); (try clear hb2); (try clear hk); (try clear hi); (try clear ho0); obtain ⟨Ao18, co18, eo18⟩ := Kd.R_slice HO708.out; subst eo18; have p709 : 0 ≤ (a1 : Int) := of_decide_eq_true (by first | (with_reducible assumption) | assumption); have q709 : a1 < (t706.length : Int) := of_decide_eq_true (by first | (with_reducible assumption) | assumption); obtain ⟨ad709, e709, hx709_0⟩ := Kd.at_int (Kd.R_reads' HO708.out).2.2 a1 p709 q709; cases e709; replace p709 := eq_true p709; replace q709 := eq_true q709) | ((with_reducible refine gate_callee (f := 101) rfl ?_); refine goesL_ (some 36) rfl rfl Try.func101 (by kernel_rfl) rfl #[.int .i64 (wrap64 ((wrap64 (rd t706 a1)) + a2))] rfl (by (try simp only [List.map_toArray, List.map_cons, List.map_nil]); first | done | rfl | (simp only [List.length_drop, List.length_take]; rfl)) ?_; (with_reducible refine (impl_eighths.calls (wrap64 ((wrap64 (rd t706 a1)) + a2)) t710 _ A15.out).mono ?_); rintro e w' ⟨rfl, ⟨nd, rfl⟩⟩; refine ⟨_, rfl, ?_⟩; (try (rw [drewN_self w17]; generalize hq_ : World.drewN w17 _ = w17; have n0_ : Aside0 (Kd.R (Kd.int .u8) 5 w17 w.heap.size (fun _ => True) (.slice (some ad709) t706.length co18) t706) := ⟨by rw [← hq_]; exact (by (with_reducible repeat (first | apply Kd.R_alloc | apply Kd.R_drewN | apply Kd.R_drew)); exact HO708.out)⟩; have n1_ : Aside0 (Below w.heap.size w w17) := ⟨by rw [← hq_]; exact (by repeat (first | (with_reducible first | exact HB.out | apply below_alloc | apply pw_below_drewN | apply below_drew1) | exact HB.out))⟩; clear HO708 HB hq_; have HO708 := n0_; have HB := n1_; clear n0_ n1_)); have p16 : 0 ≤ (a1 : Int) := of_decide_eq_true (by first | (with_reducible assumption) | assumption); have q16 : (a1 : Int) < ((t706.length : Int) : Int) := of_decide_eq_true (by first | (with_reducible assumption) | assumption); obtain ⟨go16, co16, eo16, gb16, gl16, cl16, HG16⟩ := Kd.R_form HO708.out (by omega); (first | cases eo16 | (injection eo16 with ea_ en_ ec_; (first | subst ea_ | (injection ea_ with ea_; subst ea_)); subst ec_; clear en_)); have GB16 := Aside0.mk gb16; have GG16 := Aside0.mk HG16; clear gb16 gl16 HG16; (first | simp only [add_plain] at hx709_0 | skip); obtain ⟨hx16_0, hf16_0⟩ := Kd.R_celln 0 HO708.out (a1 : Int) p16 q16; replace p16 := eq_true p16; replace q16 := eq_true q16; obtain ⟨hy19_, hz19_⟩ := Kd.R_celln 0 HO708.out (a1 : Int) (of_decide_eq_true (by first | (with_reducible assumption) | assumption)) (of_decide_eq_true (by first | (with_reducible assumption) | assumption)); have HP19 := Kd.R_putg HO708.out (a1 : Int) t710) | ((with_reducible refine gate_store (t := 5) (p := 37) rfl ?_); refine store_event (t := 5) (p := 37) (v := ?vo_w20) (w1 := (w17.setCell ⟨go16, (a1 : Int).toNat, none⟩ (.int .u8 t710))) ?hg ?ho ?hn ?hr ?_; (case ho => rfl); (case hg => rfl); (case hn => rfl); (case hr => first | (go_simp; done) | (go_simp; rfl)); intro w20 hw; have hg : w17.grownBy w20 (some go16) := (by rw [hw]; exact HP19.2); have hp_ : Kd.R (Kd.int .u8) 5 w20 w.heap.size (fun _ => True) (.slice (some ⟨go16, 0, none⟩) t706.length co18) y711 := (by rw [hw, Ny711.out]; exact HP19.1); clear HP19; have n0_ := Aside0.mk (hp_); have n1_ := Aside0.mk ((by rw [hw]; exact below_set (HB.out) GB16.out : Below w.heap.size w w20)); clear HO708; clear HB; have HO708 := n0_; have HB := n1_; clear n0_ n1_; clear hg hw hp_))
            go_ret2
            exact ⟨_, by first | rfl | (simp [errW_none, errW_some] <;> rfl) | (simp [*, errW_none, errW_some] <;> rfl), by (with_reducible repeat (first | apply Kd.R_alloc | apply Kd.R_drewN | apply Kd.R_drew)); exact HO708.out, by repeat (first | (with_reducible first | exact HB.out | apply below_alloc | apply pw_below_drewN | apply below_drew1) | exact HB.out)⟩
          · rw [if_neg c14] at H
            exact absurd H (by simp)
        · rw [if_neg c13] at H
          exact absurd H (by simp)
      · rw [if_neg c11] at H
        have c11b0 : (x8_3 == 0) = false := beq_eq_false_iff_ne.mpr c11
        have c11b1 : (x8_3 != 0) = true := bne_iff_ne.mpr c11
        simp only [Option.some.injEq, Prod.mk.injEq] at H
        obtain ⟨rfl, rfl⟩ := H
        go_wp2
        go_ret2
        exact ⟨_, by first | rfl | (simp [errW_none, errW_some] <;> rfl) | (simp [*, errW_none, errW_some] <;> rfl), by first | exact Kd.R_nil _ _ _ _ _ | exact Kd.N_nil _ _ _ _ _ | exact Kd.V_nil _ _ _ _ _ | exact Kd.Q_nil _ _ _ _ _ | exact Kd.S_nil _ _ _ _ _, by repeat (first | (with_reducible first | exact HB.out | apply below_alloc | apply pw_below_drewN | apply below_drew1) | exact HB.out)⟩
end Go.Proofs.Ytmheflciiodhdaa.P
-- Written by wip/tools/mkprint.py of this repo, over the kit's print, out of the translation; Lean checks it.
namespace Go.Proofs.Ytmheflciiodhdaa.P
open Go.RowKit Go.Proofs.YtmheflciiodhdaaW.PrintWords Go.Proofs.YtmheflciiodhdaaW.PrintLast Go.Proofs.YtmheflciiodhdaaW.PrintMore
attribute [local go_sem] max2_int min2_int max_two min_two max_three min_three max_four min_four   -- for this text's walks alone
set_option linter.unusedVariables false
set_option linter.unusedSimpArgs false
/-! ### impl_VisitsOf: function 58 -/
def impl_VisitsOf.f (k : Nat) (a0 : Int) (a1_0 : Int) (a1_1 : Int) (a1_2 : Int) (a1_3 : Int) (a1_4 : Int) (a1_5 : Int) : Option (List Int × Int) := (impl_ValidWalkers.f a0 (([(⟨a1_0, a1_1, a1_2, a1_3, a1_4, a1_5⟩ : S38)] : List (S38)))).bind fun t770 => (if t770 = true then ((impl_Walker_visits.f k a1_0 a1_1 a1_2 a1_3 a1_4 a1_5 a0).bind fun t771 => (some (t771, 0))) else (some (([] : List Int), 1)))
theorem impl_VisitsOf.mono : ∀ a0 a1 a2 a3 a4 a5 a6 k, LeO (impl_VisitsOf.f k a0 a1 a2 a3 a4 a5 a6) (impl_VisitsOf.f (k + 1) a0 a1 a2 a3 a4 a5 a6) := by
  intro a0 a1 a2 a3 a4 a5 a6 k
  unfold impl_VisitsOf.f
  repeat' first
      | (with_reducible exact impl_Walker_visits.mono _ _ _ _ _ _ _ _)
      | (with_reducible exact LeO.refl _)
      | (with_reducible exact LeO.none _)
      | (with_reducible refine LeO.ite ?_ ?_)
      | (with_reducible refine LeO.bind ?_ (fun _ => ?_))
      | exact impl_Walker_visits.mono _ _ _ _ _ _ _ _
      | exact LeO.none _
      | refine LeO.ite ?_ ?_
      | refine LeO.bind ?_ (fun _ => ?_)
set_option maxHeartbeats 8000000 in
set_option maxRecDepth 100000 in
theorem impl_VisitsOf.calls (k : Nat) (a0 : Int) (a1_0 : Int) (a1_1 : Int) (a1_2 : Int) (a1_3 : Int) (a1_4 : Int) (a1_5 : Int) (r1 : List Int) (r2 : Int) (w : World) (h : impl_VisitsOf.f k a0 a1_0 a1_1 a1_2 a1_3 a1_4 a1_5 = some (r1, r2)) :
    Calls Try.prog 58 #[.int .i64 a0, .agg #[.int .i16 a1_0, .int .i16 a1_1, .int .i16 a1_2, .int .i16 a1_3, .int .i16 a1_4, .int .i8 a1_5]] w fun e w' => ∃ v0_ : Value, e = .returned (.tuple #[v0_, .int .i64 r2]) ∧ Kd.R (Kd.int .i64) 2 w' w.heap.size (fun _ => True) v0_ r1 ∧ Below w.heap.size w w' := by
  have hu38 := Try.underlying38
  have HB := Aside0.mk (Below.refl w.heap.size w)
  have H : ((impl_ValidWalkers.f a0 (([(⟨a1_0, a1_1, a1_2, a1_3, a1_4, a1_5⟩ : S38)] : List (S38)))).bind fun t770 => (if t770 = true then ((impl_Walker_visits.f k a1_0 a1_1 a1_2 a1_3 a1_4 a1_5 a0).bind fun t771 => (some (t771, 0))) else (some (([] : List Int), 1)))) = some (r1, r2) := h
  clear h
  obtain ⟨y767, hy767⟩ : ∃ y_ : List (S38), y_ = (([(⟨a1_0, a1_1, a1_2, a1_3, a1_4, a1_5⟩ : S38)] : List (S38))) := ⟨_, rfl⟩
  replace H : ((impl_ValidWalkers.f a0 y767).bind fun t770 => (if t770 = true then ((impl_Walker_visits.f k a1_0 a1_1 a1_2 a1_3 a1_4 a1_5 a0).bind fun t771 => (some (t771, 0))) else (some (([] : List Int), 1)))) = some (r1, r2) := by first | (rw [hy767]; with_reducible exact H) | (have H2_ := (Option.bind_some _ _).symm.trans H; rw [hy767]; with_reducible exact H2_) | (have H2_ := (Option.bind_some _ _).symm.trans H; with_reducible exact H2_) | with_reducible exact H | (rw [hy767]; exact H) | exact H
  have Ny767 := Aside0.mk hy767
  clear hy767
  replace H := Option.bind_eq_some_iff.mp H
  obtain ⟨t770, A30, H⟩ := H
  replace H : (if t770 = true then ((impl_Walker_visits.f k a1_0 a1_1 a1_2 a1_3 a1_4 a1_5 a0).bind fun t771 => (some (t771, 0))) else (some (([] : List Int), 1))) = some (r1, r2) := H
  have A3 := Aside0.mk A30
  clear A30
  by_cases c4 : t770 = true
  · subst c4
    have H1 : ((impl_Walker_visits.f k a1_0 a1_1 a1_2 a1_3 a1_4 a1_5 a0).bind fun t771 => (some (t771, 0))) = some (r1, r2) := by rw [if_pos rfl] at H; exact H
    clear H
    have H := H1
    clear H1
    replace H := Option.bind_eq_some_iff.mp H
    obtain ⟨t771, A50, H⟩ := H
    replace H : (some (t771, 0)) = some (r1, r2) := H
    have A5 := Aside0.mk A50
    clear A50
    simp only [Option.some.injEq, Prod.mk.injEq] at H
    obtain ⟨rfl, rfl⟩ := H
    go_enter Try.func58, Try.ntmps58
    go_wp2_with (first | ((with_reducible refine gate_dst (N := 3) rfl ?_); refine box_event ?hg (N := 3) ?hd (cs := #[.int .i16 a1_0, .int .i16 a1_1, .int .i16 a1_2, .int .i16 a1_3, .int .i16 a1_4, .int .i8 a1_5]) (t := 38) ?hr ?_; (case hd => rfl); (case hg => rfl); (case hr => first | (go_simp; done) | (go_simp; rfl)); intro gb766 hg w6 hbox hb; have n0_ := Aside0.mk (below_step (by repeat (first | (with_reducible first | exact HB.out | apply below_alloc | apply pw_below_drewN | apply below_drew1) | exact HB.out)) hb); have n1_ := Aside0.mk (hbox); have n2_ := Aside0.mk ((by rw [hg]; exact (below_size (by repeat (first | (with_reducible first | exact HB.out | apply below_alloc | apply pw_below_drewN | apply below_drew1) | exact HB.out))) : w.heap.size ≤ gb766)); have n3_ := Aside0.mk ((by rw [hg]; exact (below_size (by repeat (first | (with_reducible first | exact HB.out | apply below_alloc | apply pw_below_drewN | apply below_drew1) | exact HB.out))) : w.heap.size ≤ gb766)); clear HB; have HB := n0_; have BK766 := n1_; have GW766 := n2_; have GE766 := n3_; clear n0_ n1_ n2_ n3_; clear hb hbox hg; have hcz7_0 : w6.cell? ⟨gb766, 0, none⟩ = some (.int .i16 a1_0) := (blk_cell BK766.out 0).trans rfl; have hcz7_1 : w6.cell? ⟨gb766, 1, none⟩ = some (.int .i16 a1_1) := (blk_cell BK766.out 1).trans rfl; have hcz7_2 : w6.cell? ⟨gb766, 2, none⟩ = some (.int .i16 a1_2) := (blk_cell BK766.out 2).trans rfl; have hcz7_3 : w6.cell? ⟨gb766, 3, none⟩ = some (.int .i16 a1_3) := (blk_cell BK766.out 3).trans rfl; have hcz7_4 : w6.cell? ⟨gb766, 4, none⟩ = some (.int .i16 a1_4) := (blk_cell BK766.out 4).trans rfl; have hcz7_5 : w6.cell? ⟨gb766, 5, none⟩ = some (.int .i8 a1_5) := (blk_cell BK766.out 5).trans rfl; have hfz7_0 := blk_frozen BK766.out 0; have hfz7_1 := blk_frozen BK766.out 1; have hfz7_2 := blk_frozen BK766.out 2; have hfz7_3 := blk_frozen BK766.out 3; have hfz7_4 := blk_frozen BK766.out 4; have hfz7_5 := blk_frozen BK766.out 5) | ((with_reducible refine gate_dst (N := 8) rfl ?_); refine Kd.R_lit k38 _ 38 ?hg (N := 8) ?hd (xs := ([(⟨a1_0, a1_1, a1_2, a1_3, a1_4, a1_5⟩ : S38)] : List (S38))) (inner := [.int .i16 a1_0, .int .i16 a1_1, .int .i16 a1_2, .int .i16 a1_3, .int .i16 a1_4, .int .i8 a1_5]) (ok := fun _ => True) (okp := fun _ => True) ?hr ?hp (fun _ hk => hk) trivial (Below.refl _ _) (Nat.le_refl _) (by simp) ?_; (case hd => rfl); (case hg => rfl); (case hr => first | (go_simp; done) | (go_simp; rfl)); (case hp => exact (Reps.c6 (show Kd.M k38 _ _ _ (⟨a1_0, a1_1, a1_2, a1_3, a1_4, a1_5⟩ : S38) [.int .i16 a1_0, .int .i16 a1_1, .int .i16 a1_2, .int .i16 a1_3, .int .i16 a1_4, .int .i8 a1_5] from (k38_mkM _ _ _ (⟨a1_0, a1_1, a1_2, a1_3, a1_4, a1_5⟩ : S38) )) (Reps.none _ _))); intro v768 w8 ho9 hb hg_ hnew_; clear hg_ hnew_; (first | rw [← Ny767.out] at ho9 | (simp only [Int.reduceToNat] at ho9; rw [← Ny767.out] at ho9)); have n0_ := Aside0.mk (Kd.R_lower (Kd.R_newB ho9 (g := gb766) (o := .cells #[.int .i16 a1_0, .int .i16 a1_1, .int .i16 a1_2, .int .i16 a1_3, .int .i16 a1_4, .int .i8 a1_5] 38 (0, 0)) (by (with_reducible repeat (first | refine blk_drewN ?_ _ | refine blk_drew ?_ | refine blk_alloc ?_ _)); exact BK766.out)) (below_size (by repeat (first | (with_reducible first | exact HB.out | apply below_alloc | apply pw_below_drewN | apply below_drew1 | refine below_set ?_ GE766.out) | exact HB.out)))); have n1_ := Aside0.mk (blk_below (g := gb766) (o := .cells #[.int .i16 a1_0, .int .i16 a1_1, .int .i16 a1_2, .int .i16 a1_3, .int .i16 a1_4, .int .i8 a1_5] 38 (0, 0)) (by (with_reducible repeat (first | refine blk_drewN ?_ _ | refine blk_drew ?_ | refine blk_alloc ?_ _)); exact BK766.out) hb); have n2_ := Aside0.mk (below_step (by repeat (first | (with_reducible first | exact HB.out | apply below_alloc | apply pw_below_drewN | apply below_drew1 | refine below_set ?_ GE766.out) | exact HB.out)) hb); clear BK766; clear HB; have HO769 := n0_; have BK766 := n1_; have HB := n2_; clear n0_ n1_ n2_; clear hb ho9; obtain ⟨Ao10, co10, eo10⟩ := Kd.R_slice HO769.out; subst eo10) | ((with_reducible refine gate_callee (f := 51) rfl ?_); refine goesL_ (some 9) rfl rfl Try.func51 (by kernel_rfl) rfl #[.int .i64 a0, .slice Ao10 y767.length co10] rfl (by (try simp only [List.map_toArray, List.map_cons, List.map_nil]); first | done | rfl | (simp only [List.length_drop, List.length_take]; rfl)) ?_; (with_reducible refine (impl_ValidWalkers.calls a0 _ _ y767 true _ ?side1 ?side2 A3.out).mono ?_); (case side1 => repeat (first | exact (Kd.R_reads' HO769.out).2.2 | (with_reducible refine Kd.C_alloc ?_ _) | (with_reducible refine Kd.C_drewN ?_ _) | (with_reducible refine Kd.C_drew ?_))); (case side2 => exact (Kd.R_reads' HO769.out).2.1); rintro e w11 ⟨rfl, hb⟩; refine ⟨_, rfl, ?_⟩; have n0_ := Aside0.mk (Kd.R_below (by (with_reducible repeat (first | apply Kd.R_alloc | apply Kd.R_drewN | apply Kd.R_drew)); exact HO769.out) hb); have n1_ := Aside0.mk (blk_below (g := gb766) (o := .cells #[.int .i16 a1_0, .int .i16 a1_1, .int .i16 a1_2, .int .i16 a1_3, .int .i16 a1_4, .int .i8 a1_5] 38 (0, 0)) (by (with_reducible repeat (first | refine blk_drewN ?_ _ | refine blk_drew ?_ | refine blk_alloc ?_ _)); exact BK766.out) hb); have n2_ := Aside0.mk (below_step (by repeat (first | (with_reducible first | exact HB.out | apply below_alloc | apply pw_below_drewN | apply below_drew1 | refine below_set ?_ GE766.out) | exact HB.out)) hb); clear HO769; clear BK766; clear HB; have HO769 := n0_; have BK766 := n1_; have HB := n2_; clear n0_ n1_ n2_; (try clear hb); (try clear hb2); (try clear hk); (try clear hi); have hcz12_0 : w11.cell? ⟨gb766, 0, none⟩ = some (.int .i16 a1_0) := (blk_cell BK766.out 0).trans rfl; have hcz12_1 : w11.cell? ⟨gb766, 1, none⟩ = some (.int .i16 a1_1) := (blk_cell BK766.out 1).trans rfl; have hcz12_2 : w11.cell? ⟨gb766, 2, none⟩ = some (.int .i16 a1_2) := (blk_cell BK766.out 2).trans rfl; have hcz12_3 : w11.cell? ⟨gb766, 3, none⟩ = some (.int .i16 a1_3) := (blk_cell BK766.out 3).trans rfl; have hcz12_4 : w11.cell? ⟨gb766, 4, none⟩ = some (.int .i16 a1_4) := (blk_cell BK766.out 4).trans rfl; have hcz12_5 : w11.cell? ⟨gb766, 5, none⟩ = some (.int .i8 a1_5) := (blk_cell BK766.out 5).trans rfl; have hfz12_0 := blk_frozen BK766.out 0; have hfz12_1 := blk_frozen BK766.out 1; have hfz12_2 := blk_frozen BK766.out 2; have hfz12_3 := blk_frozen BK766.out 3; have hfz12_4 := blk_frozen BK766.out 4; have hfz12_5 := blk_frozen BK766.out 5) | ((with_reducible refine gate_callee (f := 104) rfl ?_); refine goesL_ (some 13) rfl rfl Try.func104 (by kernel_rfl) rfl #[.agg #[.int .i16 a1_0, .int .i16 a1_1, .int .i16 a1_2, .int .i16 a1_3, .int .i16 a1_4, .int .i8 a1_5], .int .i64 a0] rfl (by (try simp only [List.map_toArray, List.map_cons, List.map_nil]); first | done | rfl | (simp only [List.length_drop, List.length_take]; rfl)) ?_; (with_reducible refine (impl_Walker_visits.calls k a1_0 a1_1 a1_2 a1_3 a1_4 a1_5 a0 t771 _ A5.out).mono ?_); rintro e w13 ⟨v772, rfl, ho0, hb⟩; refine ⟨_, rfl, ?_⟩; have n0_ := Aside0.mk (Kd.R_below (by (with_reducible repeat (first | apply Kd.R_alloc | apply Kd.R_drewN | apply Kd.R_drew)); exact HO769.out) hb); have n1_ := Aside0.mk (Kd.R_lower ho0 (below_size (by repeat (first | (with_reducible first | exact HB.out | apply below_alloc | apply pw_below_drewN | apply below_drew1 | refine below_set ?_ GE766.out) | exact HB.out)))); have n2_ := Aside0.mk (blk_below (g := gb766) (o := .cells #[.int .i16 a1_0, .int .i16 a1_1, .int .i16 a1_2, .int .i16 a1_3, .int .i16 a1_4, .int .i8 a1_5] 38 (0, 0)) (by (with_reducible repeat (first | refine blk_drewN ?_ _ | refine blk_drew ?_ | refine blk_alloc ?_ _)); exact BK766.out) hb); have n3_ := Aside0.mk (below_step (by repeat (first | (with_reducible first | exact HB.out | apply below_alloc | apply pw_below_drewN | apply below_drew1 | refine below_set ?_ GE766.out) | exact HB.out)) hb); clear HO769; clear BK766; clear HB; have HO769 := n0_; have HO773 := n1_; have BK766 := n2_; have HB := n3_; clear n0_ n1_ n2_ n3_; (try clear hb); (try clear hb2); (try clear hk); (try clear hi); (try clear ho0)))
    go_ret2
    exact ⟨_, by first | rfl | (simp [errW_none, errW_some] <;> rfl) | (simp [*, errW_none, errW_some] <;> rfl), by (with_reducible repeat (first | apply Kd.R_alloc | apply Kd.R_drewN | apply Kd.R_drew)); exact HO773.out, by repeat (first | (with_reducible first | exact HB.out | apply below_alloc | apply pw_below_drewN | apply below_drew1 | refine below_set ?_ GE766.out) | exact HB.out)⟩
  · replace c4 := Bool.eq_false_iff.mpr c4
    subst c4
    have H1 : (some (([] : List Int), 1)) = some (r1, r2) := by rw [if_neg (show ¬ (false = true) by decide)] at H; exact H
    clear H
    have H := H1
    clear H1
    simp only [Option.some.injEq, Prod.mk.injEq] at H
    obtain ⟨rfl, rfl⟩ := H
    go_enter Try.func58, Try.ntmps58
    go_wp2_with (first | ((with_reducible refine gate_dst (N := 3) rfl ?_); refine box_event ?hg (N := 3) ?hd (cs := #[.int .i16 a1_0, .int .i16 a1_1, .int .i16 a1_2, .int .i16 a1_3, .int .i16 a1_4, .int .i8 a1_5]) (t := 38) ?hr ?_; (case hd => rfl); (case hg => rfl); (case hr => first | (go_simp; done) | (go_simp; rfl)); intro gb766 hg w14 hbox hb; have n0_ := Aside0.mk (below_step (by repeat (first | (with_reducible first | exact HB.out | apply below_alloc | apply pw_below_drewN | apply below_drew1) | exact HB.out)) hb); have n1_ := Aside0.mk (hbox); have n2_ := Aside0.mk ((by rw [hg]; exact (below_size (by repeat (first | (with_reducible first | exact HB.out | apply below_alloc | apply pw_below_drewN | apply below_drew1) | exact HB.out))) : w.heap.size ≤ gb766)); have n3_ := Aside0.mk ((by rw [hg]; exact (below_size (by repeat (first | (with_reducible first | exact HB.out | apply below_alloc | apply pw_below_drewN | apply below_drew1) | exact HB.out))) : w.heap.size ≤ gb766)); clear HB; have HB := n0_; have BK766 := n1_; have GW766 := n2_; have GE766 := n3_; clear n0_ n1_ n2_ n3_; clear hb hbox hg; have hcz15_0 : w14.cell? ⟨gb766, 0, none⟩ = some (.int .i16 a1_0) := (blk_cell BK766.out 0).trans rfl; have hcz15_1 : w14.cell? ⟨gb766, 1, none⟩ = some (.int .i16 a1_1) := (blk_cell BK766.out 1).trans rfl; have hcz15_2 : w14.cell? ⟨gb766, 2, none⟩ = some (.int .i16 a1_2) := (blk_cell BK766.out 2).trans rfl; have hcz15_3 : w14.cell? ⟨gb766, 3, none⟩ = some (.int .i16 a1_3) := (blk_cell BK766.out 3).trans rfl; have hcz15_4 : w14.cell? ⟨gb766, 4, none⟩ = some (.int .i16 a1_4) := (blk_cell BK766.out 4).trans rfl; have hcz15_5 : w14.cell? ⟨gb766, 5, none⟩ = some (.int .i8 a1_5) := (blk_cell BK766.out 5).trans rfl; have hfz15_0 := blk_frozen BK766.out 0; have hfz15_1 := blk_frozen BK766.out 1; have hfz15_2 := blk_frozen BK766.out 2; have hfz15_3 := blk_frozen BK766.out 3; have hfz15_4 := blk_frozen BK766.out 4; have hfz15_5 := blk_frozen BK766.out 5) | ((with_reducible refine gate_dst (N := 8) rfl ?_); refine Kd.R_lit k38 _ 38 ?hg (N := 8) ?hd (xs := ([(⟨a1_0, a1_1, a1_2, a1_3, a1_4, a1_5⟩ : S38)] : List (S38))) (inner := [.int .i16 a1_0, .int .i16 a1_1, .int .i16 a1_2, .int .i16 a1_3, .int .i16 a1_4, .int .i8 a1_5]) (ok := fun _ => True) (okp := fun _ => True) ?hr ?hp (fun _ hk => hk) trivial (Below.refl _ _) (Nat.le_refl _) (by simp) ?_; (case hd => rfl); (case hg => rfl); (case hr => first | (go_simp; done) | (go_simp; rfl)); (case hp => exact (Reps.c6 (show Kd.M k38 _ _ _ (⟨a1_0, a1_1, a1_2, a1_3, a1_4, a1_5⟩ : S38) [.int .i16 a1_0, .int .i16 a1_1, .int .i16 a1_2, .int .i16 a1_3, .int .i16 a1_4, .int .i8 a1_5] from (k38_mkM _ _ _ (⟨a1_0, a1_1, a1_2, a1_3, a1_4, a1_5⟩ : S38) )) (Reps.none _ _))); intro v768 w16 ho17 hb hg_ hnew_; clear hg_ hnew_; (first | rw [← Ny767.out] at ho17 | (simp only [Int.reduceToNat] at ho17; rw [← Ny767.out] at ho17)); have n0_ := Aside0.mk (Kd.R_lower (Kd.R_newB ho17 (g := gb766) (o := .cells #[.int .i16 a1_0, .int .i16 a1_1, .int .i16 a1_2, .int .i16 a1_3, .int .i16 a1_4, .int .i8 a1_5] 38 (0, 0)) (by (with_reducible repeat (first | refine blk_drewN ?_ _ | refine blk_drew ?_ | refine blk_alloc ?_ _)); exact BK766.out)) (below_size (by repeat (first | (with_reducible first | exact HB.out | apply below_alloc | apply pw_below_drewN | apply below_drew1 | refine below_set ?_ GE766.out) | exact HB.out)))); have n1_ := Aside0.mk (blk_below (g := gb766) (o := .cells #[.int .i16 a1_0, .int .i16 a1_1, .int .i16 a1_2, .int .i16 a1_3, .int .i16 a1_4, .int .i8 a1_5] 38 (0, 0)) (by (with_reducible repeat (first | refine blk_drewN ?_ _ | refine blk_drew ?_ | refine blk_alloc ?_ _)); exact BK766.out) hb); have n2_ := Aside0.mk (below_step (by repeat (first | (with_reducible first | exact HB.out | apply below_alloc | apply pw_below_drewN | apply below_drew1 | refine below_set ?_ GE766.out) | exact HB.out)) hb); clear BK766; clear HB; have HO769 := n0_; have BK766 := n1_; have HB := n2_; clear n0_ n1_ n2_; clear hb ho17; obtain ⟨Ao18, co18, eo18⟩ := Kd.R_slice HO769.out; subst eo18) | ((with_reducible refine gate_callee (f := 51) rfl ?_); refine goesL_ (some 9) rfl rfl Try.func51 (by kernel_rfl) rfl #[.int .i64 a0, .slice Ao18 y767.length co18] rfl (by (try simp only [List.map_toArray, List.map_cons, List.map_nil]); first | done | rfl | (simp only [List.length_drop, List.length_take]; rfl)) ?_; (with_reducible refine (impl_ValidWalkers.calls a0 _ _ y767 false _ ?side1 ?side2 A3.out).mono ?_); (case side1 => repeat (first | exact (Kd.R_reads' HO769.out).2.2 | (with_reducible refine Kd.C_alloc ?_ _) | (with_reducible refine Kd.C_drewN ?_ _) | (with_reducible refine Kd.C_drew ?_))); (case side2 => exact (Kd.R_reads' HO769.out).2.1); rintro e w19 ⟨rfl, hb⟩; refine ⟨_, rfl, ?_⟩; have n0_ := Aside0.mk (Kd.R_below (by (with_reducible repeat (first | apply Kd.R_alloc | apply Kd.R_drewN | apply Kd.R_drew)); exact HO769.out) hb); have n1_ := Aside0.mk (blk_below (g := gb766) (o := .cells #[.int .i16 a1_0, .int .i16 a1_1, .int .i16 a1_2, .int .i16 a1_3, .int .i16 a1_4, .int .i8 a1_5] 38 (0, 0)) (by (with_reducible repeat (first | refine blk_drewN ?_ _ | refine blk_drew ?_ | refine blk_alloc ?_ _)); exact BK766.out) hb); have n2_ := Aside0.mk (below_step (by repeat (first | (with_reducible first | exact HB.out | apply below_alloc | apply pw_below_drewN | apply below_drew1 | refine below_set ?_ GE766.out) | exact HB.out)) hb); clear HO769; clear BK766; clear HB; have HO769 := n0_; have BK766 := n1_; have HB := n2_; clear n0_ n1_ n2_; (try clear hb); (try clear hb2); (try clear hk); (try clear hi)))
    go_ret2
    exact ⟨_, by first | rfl | (simp [errW_none, errW_some] <;> rfl) | (simp [*, errW_none, errW_some] <;> rfl), by first | exact Kd.R_nil _ _ _ _ _ | exact Kd.N_nil _ _ _ _ _ | exact Kd.V_nil _ _ _ _ _ | exact Kd.Q_nil _ _ _ _ _ | exact Kd.S_nil _ _ _ _ _, by repeat (first | (with_reducible first | exact HB.out | apply below_alloc | apply pw_below_drewN | apply below_drew1 | refine below_set ?_ GE766.out) | exact HB.out)⟩
end Go.Proofs.Ytmheflciiodhdaa.P
-- Written by wip/tools/mkprint.py of this repo, over the kit's print, out of the translation; Lean checks it.
namespace Go.Proofs.Ytmheflciiodhdaa.P
open Go.RowKit Go.Proofs.YtmheflciiodhdaaW.PrintWords Go.Proofs.YtmheflciiodhdaaW.PrintLast Go.Proofs.YtmheflciiodhdaaW.PrintMore
attribute [local go_sem] max2_int min2_int max_two min_two max_three min_three max_four min_four   -- for this text's walks alone
set_option linter.unusedVariables false
set_option linter.unusedSimpArgs false
/-! ### laws_f6big: function 8 -/
def laws_f6big.f (l0 : List Int) : Option (Bool) := some (decide ((l0.length : Int) > 4096))
set_option maxHeartbeats 8000000 in
set_option maxRecDepth 100000 in
theorem laws_f6big.calls (A0 : Option Addr) (c0 : Nat) (l0 : List Int) (r : Bool) (w : World) (hr0 : Kd.C (Kd.int .u8) w A0 l0.length l0) (hc0 : l0.length ≤ c0) (h : laws_f6big.f l0 = some r) :
    Calls Try.prog 8 #[.slice A0 l0.length c0] w fun e w' => e = .returned (.bool r) ∧ Drawn0 w w' := by
  have HR0 := Aside0.mk hr0
  have HC0 := Aside0.mk hc0
  clear hr0 hc0
  have H : (some (decide ((l0.length : Int) > 4096))) = some r := h
  clear h
  obtain rfl := Option.some.inj H
  go_enter Try.func8, Try.ntmps8
  go_wp2
  go_ret
  exact ⟨by first | rfl | (simp; done) | (simp [*]; done), by repeat (first | exact Drawn0.refl _ | apply Drawn0.step)⟩
end Go.Proofs.Ytmheflciiodhdaa.P
-- Written by wip/tools/mkprint.py of this repo, over the kit's print, out of the translation; Lean checks it.
namespace Go.Proofs.Ytmheflciiodhdaa.P
open Go.RowKit Go.Proofs.YtmheflciiodhdaaW.PrintWords Go.Proofs.YtmheflciiodhdaaW.PrintLast Go.Proofs.YtmheflciiodhdaaW.PrintMore
attribute [local go_sem] max2_int min2_int max_two min_two max_three min_three max_four min_four   -- for this text's walks alone
set_option linter.unusedVariables false
set_option linter.unusedSimpArgs false
/-! ### spec_l00Has: function 107 -/
def spec_l00Has.l0 : Nat → List Int → Int → Int → Option (Bool)
  | 0, _, _, _ => none
  | k + 1, x0, x1, x5 => if x5 < (x0.length : Int) then (if 0 ≤ x5 then (if (rd x0 x5) = x1 then (some true) else (spec_l00Has.l0 k x0 x1 (wrap64 (x5 + 1)))) else (none)) else (some false)
def spec_l00Has.f (k : Nat) (l0 : List Int) (a1 : Int) : Option (Bool) := spec_l00Has.l0 k l0 a1 0
theorem spec_l00Has.mono_l : ∀ k, (∀ y0 y1 y2, LeO (spec_l00Has.l0 k y0 y1 y2) (spec_l00Has.l0 (k + 1) y0 y1 y2))
  | 0 => fun _ _ _ r h => by simp [spec_l00Has.l0] at h
  | k + 1 => by
    have ih0 := spec_l00Has.mono_l k
    · intro y0 y1 y2
      unfold spec_l00Has.l0
      repeat' first
      | (with_reducible exact ih0 _ _ _)
      | (with_reducible exact LeO.refl _)
      | (with_reducible exact LeO.none _)
      | (with_reducible refine LeO.ite ?_ ?_)
      | (with_reducible refine LeO.bind ?_ (fun _ => ?_))
      | exact ih0 _ _ _
      | exact LeO.none _
      | refine LeO.ite ?_ ?_
      | refine LeO.bind ?_ (fun _ => ?_)
theorem spec_l00Has.mono : ∀ a0 a1 k, LeO (spec_l00Has.f k a0 a1) (spec_l00Has.f (k + 1) a0 a1) := by
  intro a0 a1 k
  have ih0 := spec_l00Has.mono_l k
  unfold spec_l00Has.f
  repeat' first
      | (with_reducible exact ih0 _ _ _)
      | (with_reducible exact LeO.refl _)
      | (with_reducible exact LeO.none _)
      | (with_reducible refine LeO.ite ?_ ?_)
      | (with_reducible refine LeO.bind ?_ (fun _ => ?_))
      | exact ih0 _ _ _
      | exact LeO.none _
      | refine LeO.ite ?_ ?_
      | refine LeO.bind ?_ (fun _ => ?_)
set_option maxHeartbeats 8000000 in
set_option maxRecDepth 100000 in
theorem spec_l00Has.calls (k : Nat) (A0 : Option Addr) (c0 : Nat) (l0 : List Int) (a1 : Int) (r : Bool) (w : World) (hr0 : Kd.C (Kd.int .i64) w A0 l0.length l0) (hc0 : l0.length ≤ c0) (h : spec_l00Has.f k l0 a1 = some r) :
    Calls Try.prog 107 #[.slice A0 l0.length c0, .int .i64 a1] w fun e w' => e = .returned (.bool r) ∧ Drawn0 w w' := by
  have HR0 := Aside0.mk hr0
  have HC0 := Aside0.mk hc0
  clear hr0 hc0
  have H : (spec_l00Has.l0 k l0 a1 0) = some r := h
  clear h
  have H' := Aside0.mk H
  clear H
  go_enter Try.func107, Try.ntmps107
  go_wp2
  go_loopg [5] k (fun kq v5 w' => ∃ (x5_1 : Int), v5 = .int .i64 x5_1 ∧ Aside0 (spec_l00Has.l0 kq l0 a1 x5_1 = some r) ∧ Aside0 (kq ≤ k) ∧ Drawn0 w w')
  case atStart => exact ⟨(0), (by first | rfl | (simp; done) | (simp [*]; done)), H', ⟨Nat.le_refl _⟩, by repeat (first | exact Drawn0.refl _ | apply Drawn0.step)⟩
  case round =>
    clear H'
    try clear c1
    try clear p2
    obtain ⟨x5_1, rfl, HA, HK1, ⟨m1, rfl⟩⟩ := hrel
    cases gk with
    | zero => exact absurd HA.out (by simp [spec_l00Has.l0])
    | succ k1 =>
      have H := HA.out
      clear HA
      simp only [spec_l00Has.l0] at H
      by_cases c3 : x5_1 < (l0.length : Int)
      · rw [if_pos c3] at H
        have c3b0 : decide (x5_1 < (l0.length : Int)) = true := decide_eq_true c3
        clear c3
        by_cases c4 : 0 ≤ x5_1
        · rw [if_pos c4] at H
          have c4b0 : decide (0 ≤ x5_1) = true := decide_eq_true c4
          clear c4
          by_cases c5 : (rd l0 x5_1) = a1
          · rw [if_pos c5] at H
            have c5b0 : ((rd l0 x5_1) == a1) = true := beq_iff_eq.mpr c5
            have c5b1 : ((rd l0 x5_1) != a1) = false := bne_eq_false_iff_eq.mpr c5
            clear c5
            obtain rfl := Option.some.inj H
            have p774 : 0 ≤ (x5_1 : Int) := of_decide_eq_true (by first | (with_reducible assumption) | assumption)
            have q774 : x5_1 < (l0.length : Int) := of_decide_eq_true (by first | (with_reducible assumption) | assumption)
            obtain ⟨ad774, e774, hx774_0⟩ := Kd.at_int HR0.out x5_1 p774 q774
            cases e774
            replace p774 := eq_true p774
            replace q774 := eq_true q774
            go_wp2
            go_ret
            exact ⟨by first | rfl | (simp; done) | (simp [*]; done), by repeat (first | exact Drawn0.refl _ | apply Drawn0.step)⟩
          · rw [if_neg c5] at H
            have c5b0 : ((rd l0 x5_1) == a1) = false := beq_eq_false_iff_ne.mpr c5
            have c5b1 : ((rd l0 x5_1) != a1) = true := bne_iff_ne.mpr c5
            have H' := Aside0.mk H
            clear H
            have p774 : 0 ≤ (x5_1 : Int) := of_decide_eq_true (by first | (with_reducible assumption) | assumption)
            have q774 : x5_1 < (l0.length : Int) := of_decide_eq_true (by first | (with_reducible assumption) | assumption)
            obtain ⟨ad774, e774, hx774_0⟩ := Kd.at_int HR0.out x5_1 p774 q774
            cases e774
            replace p774 := eq_true p774
            replace q774 := eq_true q774
            go_wp2
            go_roundg k1
            case measure => have := HK1.out; omega
            case rel => exact ⟨(wrap64 (x5_1 + 1)), (by first | rfl | (simp; done) | (simp [*]; done)), H', ⟨by have := HK1.out; omega⟩, by repeat (first | exact Drawn0.refl _ | apply Drawn0.step)⟩
        · rw [if_neg c4] at H
          exact absurd H (by simp)
      · rw [if_neg c3] at H
        have c3b0 : decide (x5_1 < (l0.length : Int)) = false := decide_eq_false c3
        clear c3
        obtain rfl := Option.some.inj H
        go_wp2
        go_ret
        exact ⟨by first | rfl | (simp; done) | (simp [*]; done), by repeat (first | exact Drawn0.refl _ | apply Drawn0.step)⟩
end Go.Proofs.Ytmheflciiodhdaa.P
-- Written by wip/tools/mkprint.py of this repo, over the kit's print, out of the translation; Lean checks it.
namespace Go.Proofs.Ytmheflciiodhdaa.P
open Go.RowKit Go.Proofs.YtmheflciiodhdaaW.PrintWords Go.Proofs.YtmheflciiodhdaaW.PrintLast Go.Proofs.YtmheflciiodhdaaW.PrintMore
attribute [local go_sem] max2_int min2_int max_two min_two max_three min_three max_four min_four   -- for this text's walks alone
set_option linter.unusedVariables false
set_option linter.unusedSimpArgs false
/-! ### spec_HasNumber: function 59 -/
def spec_HasNumber.f (k : Nat) (l0 : List Int) (a1 : Int) : Option (Bool) := (spec_l00Has.f k l0 a1).bind fun t775 => (some t775)
theorem spec_HasNumber.mono : ∀ a0 a1 k, LeO (spec_HasNumber.f k a0 a1) (spec_HasNumber.f (k + 1) a0 a1) := by
  intro a0 a1 k
  unfold spec_HasNumber.f
  repeat' first
      | (with_reducible exact spec_l00Has.mono _ _ _)
      | (with_reducible exact LeO.refl _)
      | (with_reducible exact LeO.none _)
      | (with_reducible refine LeO.ite ?_ ?_)
      | (with_reducible refine LeO.bind ?_ (fun _ => ?_))
      | exact spec_l00Has.mono _ _ _
      | exact LeO.none _
      | refine LeO.ite ?_ ?_
      | refine LeO.bind ?_ (fun _ => ?_)
set_option maxHeartbeats 8000000 in
set_option maxRecDepth 100000 in
theorem spec_HasNumber.calls (k : Nat) (A0 : Option Addr) (c0 : Nat) (l0 : List Int) (a1 : Int) (r : Bool) (w : World) (hr0 : Kd.C (Kd.int .i64) w A0 l0.length l0) (hc0 : l0.length ≤ c0) (h : spec_HasNumber.f k l0 a1 = some r) :
    Calls Try.prog 59 #[.slice A0 l0.length c0, .int .i64 a1] w fun e w' => e = .returned (.bool r) ∧ Drawn0 w w' := by
  have HR0 := Aside0.mk hr0
  have HC0 := Aside0.mk hc0
  clear hr0 hc0
  have H : ((spec_l00Has.f k l0 a1).bind fun t775 => (some t775)) = some r := h
  clear h
  replace H := Option.bind_eq_some_iff.mp H
  obtain ⟨t775, A30, H⟩ := H
  replace H : (some t775) = some r := H
  have A3 := Aside0.mk A30
  clear A30
  obtain rfl := Option.some.inj H
  go_enter Try.func59, Try.ntmps59
  go_wp2_with (first | ((with_reducible refine gate_callee (f := 107) rfl ?_); refine goesL_ (some 7) rfl rfl Try.func107 (by kernel_rfl) rfl #[.slice A0 l0.length c0, .int .i64 a1] rfl (by (try simp only [List.map_toArray, List.map_cons, List.map_nil]); first | done | rfl | (simp only [List.length_drop, List.length_take]; rfl)) ?_; (with_reducible refine (spec_l00Has.calls k _ _ l0 a1 t775 _ ?side1 ?side2 A3.out).mono ?_); (case side1 => repeat (first | exact HR0.out | (with_reducible refine Kd.C_alloc ?_ _) | (with_reducible refine Kd.C_drewN ?_ _) | (with_reducible refine Kd.C_drew ?_))); (case side2 => exact HC0.out); rintro e w' ⟨rfl, ⟨nd, rfl⟩⟩; refine ⟨_, rfl, ?_⟩))
  go_ret
  exact ⟨by first | rfl | (simp; done) | (simp [*]; done), by repeat (first | exact Drawn0.refl _ | apply Drawn0.step)⟩
end Go.Proofs.Ytmheflciiodhdaa.P
-- Written by wip/tools/mkprint.py of this repo, over the kit's print, out of the translation; Lean checks it.
namespace Go.Proofs.Ytmheflciiodhdaa.P
open Go.RowKit Go.Proofs.YtmheflciiodhdaaW.PrintWords Go.Proofs.YtmheflciiodhdaaW.PrintLast Go.Proofs.YtmheflciiodhdaaW.PrintMore
attribute [local go_sem] max2_int min2_int max_two min_two max_three min_three max_four min_four   -- for this text's walks alone
set_option linter.unusedVariables false
set_option linter.unusedSimpArgs false
/-! ### spec_NeverTurned: function 56 -/
mutual
def spec_NeverTurned.l0 : Nat → Int → List (S38) → List Int → Int → Option (List Int × Int)
  | 0, _, _, _, _ => none
  | k + 1, x0, x1, x6, x8 => if x8 < x0 then (spec_NeverTurned.l1 k x0 x1 x6 x8 0 0) else (some (x6, 0))
def spec_NeverTurned.l1 : Nat → Int → List (S38) → List Int → Int → Int → Int → Option (List Int × Int)
  | 0, _, _, _, _, _, _ => none
  | k + 1, x0, x1, x6, x8, x9, x10 => if x10 < (x1.length : Int) then (if 0 ≤ x10 then ((spec_l05Visits.f k x0 ((rd_T38 x1 x10).f0) ((rd_T38 x1 x10).f1) ((rd_T38 x1 x10).f2) ((rd_T38 x1 x10).f3) ((rd_T38 x1 x10).f4) ((rd_T38 x1 x10).f5)).bind fun t756 => (if 0 ≤ x8 then (if x8 < (t756.length : Int) then (spec_NeverTurned.l1 k x0 x1 x6 x8 (wrap64 (x9 + (rd t756 x8))) (wrap64 (x10 + 1))) else (none)) else (none))) else (none)) else (if x9 = 0 then (if x6.length < 17592186044416 then (spec_NeverTurned.l0 k x0 x1 (x6 ++ [x8]) (wrap64 (x8 + 1))) else (none)) else (spec_NeverTurned.l0 k x0 x1 x6 (wrap64 (x8 + 1))))
end
def spec_NeverTurned.f (k : Nat) (a0 : Int) (l1 : List (S38)) : Option (List Int × Int) := (some (([] : List Int) : List Int)).bind fun y751 => ((spec_l05Asked.f k a0 l1 true).bind fun t754 => (if t754 = 0 then (spec_NeverTurned.l0 k a0 l1 y751 0) else (some (y751, t754))))
theorem spec_NeverTurned.mono_l : ∀ k, (∀ y0 y1 y2 y3, LeO (spec_NeverTurned.l0 k y0 y1 y2 y3) (spec_NeverTurned.l0 (k + 1) y0 y1 y2 y3)) ∧ (∀ y0 y1 y2 y3 y4 y5, LeO (spec_NeverTurned.l1 k y0 y1 y2 y3 y4 y5) (spec_NeverTurned.l1 (k + 1) y0 y1 y2 y3 y4 y5))
  | 0 => ⟨fun _ _ _ _ r h => by simp [spec_NeverTurned.l0] at h, fun _ _ _ _ _ _ r h => by simp [spec_NeverTurned.l1] at h⟩
  | k + 1 => by
    obtain ⟨ih0, ih1⟩ := spec_NeverTurned.mono_l k
    refine ⟨?_, ?_⟩
    · intro y0 y1 y2 y3
      unfold spec_NeverTurned.l0
      repeat' first
      | (with_reducible exact ih0 _ _ _ _)
      | (with_reducible exact ih1 _ _ _ _ _ _)
      | (with_reducible exact spec_l05Asked.mono _ _ _ _)
      | (with_reducible exact spec_l05Visits.mono _ _ _ _ _ _ _ _)
      | (with_reducible exact LeO.refl _)
      | (with_reducible exact LeO.none _)
      | (with_reducible refine LeO.ite ?_ ?_)
      | (with_reducible refine LeO.bind ?_ (fun _ => ?_))
      | exact ih0 _ _ _ _
      | exact ih1 _ _ _ _ _ _
      | exact spec_l05Asked.mono _ _ _ _
      | exact spec_l05Visits.mono _ _ _ _ _ _ _ _
      | exact LeO.none _
      | refine LeO.ite ?_ ?_
      | refine LeO.bind ?_ (fun _ => ?_)
    · intro y0 y1 y2 y3 y4 y5
      unfold spec_NeverTurned.l1
      repeat' first
      | (with_reducible exact ih0 _ _ _ _)
      | (with_reducible exact ih1 _ _ _ _ _ _)
      | (with_reducible exact spec_l05Asked.mono _ _ _ _)
      | (with_reducible exact spec_l05Visits.mono _ _ _ _ _ _ _ _)
      | (with_reducible exact LeO.refl _)
      | (with_reducible exact LeO.none _)
      | (with_reducible refine LeO.ite ?_ ?_)
      | (with_reducible refine LeO.bind ?_ (fun _ => ?_))
      | exact ih0 _ _ _ _
      | exact ih1 _ _ _ _ _ _
      | exact spec_l05Asked.mono _ _ _ _
      | exact spec_l05Visits.mono _ _ _ _ _ _ _ _
      | exact LeO.none _
      | refine LeO.ite ?_ ?_
      | refine LeO.bind ?_ (fun _ => ?_)
theorem spec_NeverTurned.mono : ∀ a0 a1 k, LeO (spec_NeverTurned.f k a0 a1) (spec_NeverTurned.f (k + 1) a0 a1) := by
  intro a0 a1 k
  obtain ⟨ih0, ih1⟩ := spec_NeverTurned.mono_l k
  unfold spec_NeverTurned.f
  repeat' first
      | (with_reducible exact ih0 _ _ _ _)
      | (with_reducible exact ih1 _ _ _ _ _ _)
      | (with_reducible exact spec_l05Asked.mono _ _ _ _)
      | (with_reducible exact spec_l05Visits.mono _ _ _ _ _ _ _ _)
      | (with_reducible exact LeO.refl _)
      | (with_reducible exact LeO.none _)
      | (with_reducible refine LeO.ite ?_ ?_)
      | (with_reducible refine LeO.bind ?_ (fun _ => ?_))
      | exact ih0 _ _ _ _
      | exact ih1 _ _ _ _ _ _
      | exact spec_l05Asked.mono _ _ _ _
      | exact spec_l05Visits.mono _ _ _ _ _ _ _ _
      | exact LeO.none _
      | refine LeO.ite ?_ ?_
      | refine LeO.bind ?_ (fun _ => ?_)
set_option maxHeartbeats 8000000 in
set_option maxRecDepth 100000 in
theorem spec_NeverTurned.calls (k : Nat) (a0 : Int) (A1 : Option Addr) (c1 : Nat) (l1 : List (S38)) (r1 : List Int) (r2 : Int) (w : World) (hr1 : Kd.C k38 w A1 l1.length l1) (hc1 : l1.length ≤ c1) (h : spec_NeverTurned.f k a0 l1 = some (r1, r2)) :
    Calls Try.prog 56 #[.int .i64 a0, .slice A1 l1.length c1] w fun e w' => ∃ v0_ : Value, e = .returned (.tuple #[v0_, .int .i64 r2]) ∧ Kd.R (Kd.int .i64) 2 w' w.heap.size (fun _ => True) v0_ r1 ∧ Below w.heap.size w w' := by
  have hu38 := Try.underlying38
  have HR1 := Aside0.mk hr1
  have HC1 := Aside0.mk hc1
  clear hr1 hc1
  have HB := Aside0.mk (Below.refl w.heap.size w)
  have H : ((some (([] : List Int) : List Int)).bind fun y751 => ((spec_l05Asked.f k a0 l1 true).bind fun t754 => (if t754 = 0 then (spec_NeverTurned.l0 k a0 l1 y751 0) else (some (y751, t754))))) = some (r1, r2) := h
  clear h
  obtain ⟨y751, hy751⟩ : ∃ y_ : List Int, y_ = (([] : List Int)) := ⟨_, rfl⟩
  replace H : ((spec_l05Asked.f k a0 l1 true).bind fun t754 => (if t754 = 0 then (spec_NeverTurned.l0 k a0 l1 y751 0) else (some (y751, t754)))) = some (r1, r2) := by first | (rw [hy751]; with_reducible exact H) | (have H2_ := (Option.bind_some _ _).symm.trans H; rw [hy751]; with_reducible exact H2_) | (have H2_ := (Option.bind_some _ _).symm.trans H; with_reducible exact H2_) | with_reducible exact H | (rw [hy751]; exact H) | exact H
  have Ny751 := Aside0.mk hy751
  clear hy751
  replace H := Option.bind_eq_some_iff.mp H
  obtain ⟨t754, A30, H⟩ := H
  replace H : (if t754 = 0 then (spec_NeverTurned.l0 k a0 l1 y751 0) else (some (y751, t754))) = some (r1, r2) := H
  have A3 := Aside0.mk A30
  clear A30
  by_cases c4 : t754 = 0
  · rw [if_pos c4] at H
    have c4b0 : (t754 == 0) = true := beq_iff_eq.mpr c4
    have c4b1 : (t754 != 0) = false := bne_eq_false_iff_eq.mpr c4
    clear c4
    have H' := Aside0.mk H
    clear H
    go_enter Try.func56, Try.ntmps56
    go_wp2_with (first | ((with_reducible refine gate_dst (N := 11) rfl ?_); refine Kd.R_lit (Kd.int .i64) _ 2 ?hg (N := 11) ?hd (xs := ([] : List Int)) (inner := []) (ok := fun _ => True) (okp := fun _ => True) ?hr ?hp (fun _ hk => hk) trivial (Below.refl _ _) (Nat.le_refl _) (by simp) ?_; (case hd => rfl); (case hg => rfl); (case hr => first | (go_simp; done) | (go_simp; rfl)); (case hp => exact (Reps.none _ _)); intro v752 w5 ho6 hb hg_ hnew_; clear hg_ hnew_; (first | rw [← Ny751.out] at ho6 | (simp only [Int.reduceToNat] at ho6; rw [← Ny751.out] at ho6)); have n0_ := Aside0.mk (Kd.R_lower ho6 (below_size (by repeat (first | (with_reducible first | exact HB.out | apply below_alloc | apply pw_below_drewN | apply below_drew1) | exact HB.out)))); have n1_ := Aside0.mk (below_step (by repeat (first | (with_reducible first | exact HB.out | apply below_alloc | apply pw_below_drewN | apply below_drew1) | exact HB.out)) hb); clear HB; have HO753 := n0_; have HB := n1_; clear n0_ n1_; clear hb ho6) | ((with_reducible refine gate_callee (f := 92) rfl ?_); refine goesL_ (some 14) rfl rfl Try.func92 (by kernel_rfl) rfl #[.int .i64 a0, .slice A1 l1.length c1, .bool true] rfl (by (try simp only [List.map_toArray, List.map_cons, List.map_nil]); first | done | rfl | (simp only [List.length_drop, List.length_take]; rfl)) ?_; (with_reducible refine (spec_l05Asked.calls k a0 _ _ l1 true t754 _ ?side1 ?side2 A3.out).mono ?_); (case side1 => repeat (first | exact (Kd.C_below HR1.out HB.out) | (with_reducible refine Kd.C_alloc ?_ _) | (with_reducible refine Kd.C_drewN ?_ _) | (with_reducible refine Kd.C_drew ?_))); (case side2 => exact HC1.out); rintro e w7 ⟨rfl, hb⟩; refine ⟨_, rfl, ?_⟩; have n0_ := Aside0.mk (Kd.R_below (by (with_reducible repeat (first | apply Kd.R_alloc | apply Kd.R_drewN | apply Kd.R_drew)); exact HO753.out) hb); have n1_ := Aside0.mk (below_step (by repeat (first | (with_reducible first | exact HB.out | apply below_alloc | apply pw_below_drewN | apply below_drew1) | exact HB.out)) hb); clear HO753; clear HB; have HO753 := n0_; have HB := n1_; clear n0_ n1_; (try clear hb); (try clear hb2); (try clear hk); (try clear hi)))
    go_loopg [6, 8] k (fun kq v6 v8 w' => ∃ (x6_1 : List Int) (x8_1 : Int), v8 = .int .i64 x8_1 ∧ Aside0 (spec_NeverTurned.l0 kq a0 l1 x6_1 x8_1 = some (r1, r2)) ∧ Aside0 (kq ≤ k) ∧ Aside0 (Kd.R (Kd.int .i64) 2 w' w.heap.size (fun _ => True) v6 x6_1) ∧ Aside0 (Below w.heap.size w w'))
    case atStart => exact ⟨(y751), (0), (by first | rfl | (simp; done) | (simp [*]; done)), H', ⟨Nat.le_refl _⟩, ⟨by (with_reducible repeat (first | apply Kd.R_alloc | apply Kd.R_drewN | apply Kd.R_drew)); exact HO753.out⟩, ⟨by repeat (first | (with_reducible first | exact HB.out | apply below_alloc | apply pw_below_drewN | apply below_drew1) | exact HB.out)⟩⟩
    case round =>
      clear H'
      try clear c1
      try clear p2
      try clear c4
      try clear c4b0
      try clear c4b1
      try clear c5
      obtain ⟨x6_1, x8_1, rfl, HA, HK1, HO_6, HB⟩ := hrel
      cases gk with
      | zero => exact absurd HA.out (by simp [spec_NeverTurned.l0])
      | succ k1 =>
        have H := HA.out
        clear HA
        simp only [spec_NeverTurned.l0] at H
        by_cases c8 : x8_1 < a0
        · rw [if_pos c8] at H
          have c8b0 : decide (x8_1 < a0) = true := decide_eq_true c8
          clear c8
          have H' := Aside0.mk H
          clear H
          go_wp2
          go_loopg [9, 10] k1 (fun kq v9 v10 w' => ∃ (x9_2 : Int) (x10_2 : Int), v9 = .int .i64 x9_2 ∧ v10 = .int .i64 x10_2 ∧ Aside0 (spec_NeverTurned.l1 kq a0 l1 x6_1 x8_1 x9_2 x10_2 = some (r1, r2)) ∧ Aside0 (kq ≤ k1) ∧ Aside0 (Kd.R (Kd.int .i64) 2 w' w.heap.size (fun _ => True) u6 x6_1) ∧ Aside0 (Below w.heap.size w w'))
          case atStart => exact ⟨(0), (0), (by first | rfl | (simp; done) | (simp [*]; done)), (by first | rfl | (simp; done) | (simp [*]; done)), H', ⟨Nat.le_refl _⟩, ⟨by (with_reducible repeat (first | apply Kd.R_alloc | apply Kd.R_drewN | apply Kd.R_drew)); exact HO_6.out⟩, ⟨by repeat (first | (with_reducible first | exact HB.out | apply below_alloc | apply pw_below_drewN | apply below_drew1) | exact HB.out)⟩⟩
          case round =>
            clear H'
            try clear c1
            try clear p2
            try clear c4
            try clear c4b0
            try clear c4b1
            try clear c5
            try clear c8
            try clear c8b0
            try clear p2
            obtain ⟨x9_2, x10_2, rfl, rfl, HA, HK2, HO_6, HB⟩ := hrel
            cases gk with
            | zero => exact absurd HA.out (by simp [spec_NeverTurned.l1])
            | succ k2 =>
              have H := HA.out
              clear HA
              simp only [spec_NeverTurned.l1] at H
              by_cases c9 : x10_2 < (l1.length : Int)
              · rw [if_pos c9] at H
                have c9b0 : decide (x10_2 < (l1.length : Int)) = true := decide_eq_true c9
                clear c9
                by_cases c10 : 0 ≤ x10_2
                · rw [if_pos c10] at H
                  have c10b0 : decide (0 ≤ x10_2) = true := decide_eq_true c10
                  clear c10
                  replace H := Option.bind_eq_some_iff.mp H
                  obtain ⟨t756, A110, H⟩ := H
                  replace H : (if 0 ≤ x8_1 then (if x8_1 < (t756.length : Int) then (spec_NeverTurned.l1 k2 a0 l1 x6_1 x8_1 (wrap64 (x9_2 + (rd t756 x8_1))) (wrap64 (x10_2 + 1))) else (none)) else (none)) = some (r1, r2) := H
                  have A11 := Aside0.mk A110
                  clear A110
                  by_cases c12 : 0 ≤ x8_1
                  · rw [if_pos c12] at H
                    have c12b0 : decide (0 ≤ x8_1) = true := decide_eq_true c12
                    clear c12
                    by_cases c13 : x8_1 < (t756.length : Int)
                    · rw [if_pos c13] at H
                      have c13b0 : decide (x8_1 < (t756.length : Int)) = true := decide_eq_true c13
                      clear c13
                      have H' := Aside0.mk H
                      clear H
                      have p755 : 0 ≤ (x10_2 : Int) := of_decide_eq_true (by first | (with_reducible assumption) | assumption)
                      have q755 : x10_2 < (l1.length : Int) := of_decide_eq_true (by first | (with_reducible assumption) | assumption)
                      obtain ⟨ad755, e755, hx755_0, hx755_1, hx755_2, hx755_3, hx755_4, hx755_5⟩ := at_T38 HR1.out x10_2 p755 q755
                      cases e755
                      replace hx755_0 := (HB.out.cell (World.block_lt_of_cell? w _ hx755_0)).trans hx755_0
                      replace hx755_1 := (HB.out.cell (World.block_lt_of_cell? w _ hx755_1)).trans hx755_1
                      replace hx755_2 := (HB.out.cell (World.block_lt_of_cell? w _ hx755_2)).trans hx755_2
                      replace hx755_3 := (HB.out.cell (World.block_lt_of_cell? w _ hx755_3)).trans hx755_3
                      replace hx755_4 := (HB.out.cell (World.block_lt_of_cell? w _ hx755_4)).trans hx755_4
                      replace hx755_5 := (HB.out.cell (World.block_lt_of_cell? w _ hx755_5)).trans hx755_5
                      replace p755 := eq_true p755
                      replace q755 := eq_true q755
                      go_wp2_with (first | ((with_reducible refine gate_callee (f := 105) rfl ?_); refine goesL_ (some 36) rfl rfl Try.func105 (by kernel_rfl) rfl #[.int .i64 a0, .agg #[.int .i16 ((rd_T38 l1 x10_2).f0), .int .i16 ((rd_T38 l1 x10_2).f1), .int .i16 ((rd_T38 l1 x10_2).f2), .int .i16 ((rd_T38 l1 x10_2).f3), .int .i16 ((rd_T38 l1 x10_2).f4), .int .i8 ((rd_T38 l1 x10_2).f5)]] rfl (by (try simp only [List.map_toArray, List.map_cons, List.map_nil]); first | done | rfl | (simp only [List.length_drop, List.length_take]; rfl)) ?_; (with_reducible refine (spec_l05Visits.calls k2 a0 ((rd_T38 l1 x10_2).f0) ((rd_T38 l1 x10_2).f1) ((rd_T38 l1 x10_2).f2) ((rd_T38 l1 x10_2).f3) ((rd_T38 l1 x10_2).f4) ((rd_T38 l1 x10_2).f5) t756 _ A11.out).mono ?_); rintro e w14 ⟨v757, rfl, ho0, hb⟩; refine ⟨_, rfl, ?_⟩; have n0_ := Aside0.mk (Kd.R_elder' (by (with_reducible repeat (first | apply Kd.R_alloc | apply Kd.R_drewN | apply Kd.R_drew)); exact HO_6.out) (Kd.R_base ho0) hb); have n1_ := Aside0.mk (Kd.R_lower (Kd.R_new' ho0 (Kd.R_lt (by (with_reducible repeat (first | apply Kd.R_alloc | apply Kd.R_drewN | apply Kd.R_drew)); exact HO_6.out))) (below_size (by repeat (first | (with_reducible first | exact HB.out | apply below_alloc | apply pw_below_drewN | apply below_drew1) | exact HB.out)))); have n2_ := Aside0.mk (below_step (by repeat (first | (with_reducible first | exact HB.out | apply below_alloc | apply pw_below_drewN | apply below_drew1) | exact HB.out)) hb); clear HO_6; clear HB; have HO_6 := n0_; have HO758 := n1_; have HB := n2_; clear n0_ n1_ n2_; (try clear hb); (try clear hb2); (try clear hk); (try clear hi); (try clear ho0); obtain ⟨Ao15, co15, eo15⟩ := Kd.R_slice HO758.out; subst eo15; have p759 : 0 ≤ (x8_1 : Int) := of_decide_eq_true (by first | (with_reducible assumption) | assumption); have q759 : x8_1 < (t756.length : Int) := of_decide_eq_true (by first | (with_reducible assumption) | assumption); obtain ⟨ad759, e759, hx759_0⟩ := Kd.at_int (Kd.R_reads' HO758.out).2.2 x8_1 p759 q759; cases e759; replace p759 := eq_true p759; replace q759 := eq_true q759))
                      go_roundg k2
                      case measure => have := HK1.out; have := HK2.out; omega
                      case rel => exact ⟨(wrap64 (x9_2 + (rd t756 x8_1))), (wrap64 (x10_2 + 1)), (by first | rfl | (simp; done) | (simp [*]; done)), (by first | rfl | (simp; done) | (simp [*]; done)), H', ⟨by have := HK1.out; have := HK2.out; omega⟩, ⟨by (with_reducible repeat (first | apply Kd.R_alloc | apply Kd.R_drewN | apply Kd.R_drew)); exact Kd.R_mono HO_6.out (fun _ hk => trivial)⟩, ⟨by repeat (first | (with_reducible first | exact HB.out | apply below_alloc | apply pw_below_drewN | apply below_drew1) | exact HB.out)⟩⟩
                    · rw [if_neg c13] at H
                      exact absurd H (by simp)
                  · rw [if_neg c12] at H
                    exact absurd H (by simp)
                · rw [if_neg c10] at H
                  exact absurd H (by simp)
              · rw [if_neg c9] at H
                have c9b0 : decide (x10_2 < (l1.length : Int)) = false := decide_eq_false c9
                clear c9
                by_cases c16 : x9_2 = 0
                · rw [if_pos c16] at H
                  have c16b0 : (x9_2 == 0) = true := beq_iff_eq.mpr c16
                  have c16b1 : (x9_2 != 0) = false := bne_eq_false_iff_eq.mpr c16
                  clear c16
                  by_cases c17 : x6_1.length < 17592186044416
                  · rw [if_pos c17] at H
                    have LMc17 := Aside0.mk c17
                    clear c17
                    obtain ⟨y760, hy760⟩ : ∃ y_ : List Int, y_ = (x6_1 ++ [x8_1]) := ⟨_, rfl⟩
                    replace H : (spec_NeverTurned.l0 k2 a0 l1 y760 (wrap64 (x8_1 + 1))) = some (r1, r2) := by first | (rw [hy760]; with_reducible exact H) | (have H2_ := (Option.bind_some _ _).symm.trans H; rw [hy760]; with_reducible exact H2_) | (have H2_ := (Option.bind_some _ _).symm.trans H; with_reducible exact H2_) | with_reducible exact H | (rw [hy760]; exact H) | exact H
                    have Ny760 := Aside0.mk hy760
                    clear hy760
                    have H' := Aside0.mk H
                    clear H
                    go_wp2_with (first | ((with_reducible refine gate_builtin (b := .append) (xs := #[.tmp 43, .tmp 45]) rfl ?_); at_builtin; refine Kd.R_append (Kd.int .i64) (w0 := w) w.heap.size rfl (.tmp 43) (.tmp 45) 47 2 (.int .i64 0) 8 rfl Try.underlying47 info2 rfl (by decide) (by omega) u6 x6_1 x8_1 [.int .i64 x8_1] (fun _ => True) (fun _ => False) rfl rfl ?aP (fun _ hk => hk.elim) ?aF ?aO ?aB ?aS ?aL ?_; (case aP => exact rfl); (case aB => exact (by repeat (first | (with_reducible first | exact HB.out | apply below_alloc | apply pw_below_drewN | apply below_drew1) | exact HB.out))); (case aF => exact (fun _ _ => trivial)); (case aO => exact (by (with_reducible repeat (first | apply Kd.R_alloc | apply Kd.R_drewN | apply Kd.R_drew)); exact HO_6.out)); (case aS => exact (below_size (by repeat (first | (with_reducible first | exact HB.out | apply below_alloc | apply pw_below_drewN | apply below_drew1) | exact HB.out)))); (case aL => have := LMc17.out; omega); intro v761 w18 ho hb hg hat; rw [← Ny760.out] at ho; have n0_ := Aside0.mk (hb); have n1_ := Aside0.mk (ho); clear HB; clear HO_6; have HB := n0_; have HO762 := n1_; clear n0_ n1_; clear ho hb hg hat))
                    go_roundg k2
                    case measure => have := HK1.out; have := HK2.out; omega
                    case rel => exact ⟨(y760), (wrap64 (x8_1 + 1)), (by first | rfl | (simp; done) | (simp [*]; done)), H', ⟨by have := HK1.out; have := HK2.out; omega⟩, ⟨by (with_reducible repeat (first | apply Kd.R_alloc | apply Kd.R_drewN | apply Kd.R_drew)); exact HO762.out⟩, ⟨by repeat (first | (with_reducible first | exact HB.out | apply below_alloc | apply pw_below_drewN | apply below_drew1) | exact HB.out)⟩⟩
                  · rw [if_neg c17] at H
                    exact absurd H (by simp)
                · rw [if_neg c16] at H
                  have c16b0 : (x9_2 == 0) = false := beq_eq_false_iff_ne.mpr c16
                  have c16b1 : (x9_2 != 0) = true := bne_iff_ne.mpr c16
                  have H' := Aside0.mk H
                  clear H
                  go_wp2
                  go_roundg k2
                  case measure => have := HK1.out; have := HK2.out; omega
                  case rel => exact ⟨(x6_1), (wrap64 (x8_1 + 1)), (by first | rfl | (simp; done) | (simp [*]; done)), H', ⟨by have := HK1.out; have := HK2.out; omega⟩, ⟨by (with_reducible repeat (first | apply Kd.R_alloc | apply Kd.R_drewN | apply Kd.R_drew)); exact HO_6.out⟩, ⟨by repeat (first | (with_reducible first | exact HB.out | apply below_alloc | apply pw_below_drewN | apply below_drew1) | exact HB.out)⟩⟩
        · rw [if_neg c8] at H
          have c8b0 : decide (x8_1 < a0) = false := decide_eq_false c8
          clear c8
          simp only [Option.some.injEq, Prod.mk.injEq] at H
          obtain ⟨rfl, rfl⟩ := H
          go_wp2
          go_ret2
          exact ⟨_, by first | rfl | (simp [errW_none, errW_some] <;> rfl) | (simp [*, errW_none, errW_some] <;> rfl), by (with_reducible repeat (first | apply Kd.R_alloc | apply Kd.R_drewN | apply Kd.R_drew)); exact HO_6.out, by repeat (first | (with_reducible first | exact HB.out | apply below_alloc | apply pw_below_drewN | apply below_drew1) | exact HB.out)⟩
  · rw [if_neg c4] at H
    have c4b0 : (t754 == 0) = false := beq_eq_false_iff_ne.mpr c4
    have c4b1 : (t754 != 0) = true := bne_iff_ne.mpr c4
    simp only [Option.some.injEq, Prod.mk.injEq] at H
    obtain ⟨rfl, rfl⟩ := H
    go_enter Try.func56, Try.ntmps56
    go_wp2_with (first | ((with_reducible refine gate_dst (N := 11) rfl ?_); refine Kd.R_lit (Kd.int .i64) _ 2 ?hg (N := 11) ?hd (xs := ([] : List Int)) (inner := []) (ok := fun _ => True) (okp := fun _ => True) ?hr ?hp (fun _ hk => hk) trivial (Below.refl _ _) (Nat.le_refl _) (by simp) ?_; (case hd => rfl); (case hg => rfl); (case hr => first | (go_simp; done) | (go_simp; rfl)); (case hp => exact (Reps.none _ _)); intro v752 w19 ho20 hb hg_ hnew_; clear hg_ hnew_; (first | rw [← Ny751.out] at ho20 | (simp only [Int.reduceToNat] at ho20; rw [← Ny751.out] at ho20)); have n0_ := Aside0.mk (Kd.R_lower ho20 (below_size (by repeat (first | (with_reducible first | exact HB.out | apply below_alloc | apply pw_below_drewN | apply below_drew1) | exact HB.out)))); have n1_ := Aside0.mk (below_step (by repeat (first | (with_reducible first | exact HB.out | apply below_alloc | apply pw_below_drewN | apply below_drew1) | exact HB.out)) hb); clear HB; have HO753 := n0_; have HB := n1_; clear n0_ n1_; clear hb ho20) | ((with_reducible refine gate_callee (f := 92) rfl ?_); refine goesL_ (some 14) rfl rfl Try.func92 (by kernel_rfl) rfl #[.int .i64 a0, .slice A1 l1.length c1, .bool true] rfl (by (try simp only [List.map_toArray, List.map_cons, List.map_nil]); first | done | rfl | (simp only [List.length_drop, List.length_take]; rfl)) ?_; (with_reducible refine (spec_l05Asked.calls k a0 _ _ l1 true t754 _ ?side1 ?side2 A3.out).mono ?_); (case side1 => repeat (first | exact (Kd.C_below HR1.out HB.out) | (with_reducible refine Kd.C_alloc ?_ _) | (with_reducible refine Kd.C_drewN ?_ _) | (with_reducible refine Kd.C_drew ?_))); (case side2 => exact HC1.out); rintro e w21 ⟨rfl, hb⟩; refine ⟨_, rfl, ?_⟩; have n0_ := Aside0.mk (Kd.R_below (by (with_reducible repeat (first | apply Kd.R_alloc | apply Kd.R_drewN | apply Kd.R_drew)); exact HO753.out) hb); have n1_ := Aside0.mk (below_step (by repeat (first | (with_reducible first | exact HB.out | apply below_alloc | apply pw_below_drewN | apply below_drew1) | exact HB.out)) hb); clear HO753; clear HB; have HO753 := n0_; have HB := n1_; clear n0_ n1_; (try clear hb); (try clear hb2); (try clear hk); (try clear hi)))
    go_ret2
    exact ⟨_, by first | rfl | (simp [errW_none, errW_some] <;> rfl) | (simp [*, errW_none, errW_some] <;> rfl), by (with_reducible repeat (first | apply Kd.R_alloc | apply Kd.R_drewN | apply Kd.R_drew)); exact HO753.out, by repeat (first | (with_reducible first | exact HB.out | apply below_alloc | apply pw_below_drewN | apply below_drew1) | exact HB.out)⟩
end Go.Proofs.Ytmheflciiodhdaa.P
-- Written by wip/tools/mkprint.py of this repo, over the kit's print, out of the translation; Lean checks it.
namespace Go.Proofs.Ytmheflciiodhdaa.P
open Go.RowKit Go.Proofs.YtmheflciiodhdaaW.PrintWords Go.Proofs.YtmheflciiodhdaaW.PrintLast Go.Proofs.YtmheflciiodhdaaW.PrintMore
attribute [local go_sem] max2_int min2_int max_two min_two max_three min_three max_four min_four   -- for this text's walks alone
set_option linter.unusedVariables false
set_option linter.unusedSimpArgs false
/-! ### spec_l00Same: function 106 -/
def spec_l00Same.l0 : Nat → List Int → List Int → Int → Option (Bool)
  | 0, _, _, _ => none
  | k + 1, x0, x1, x5 => if x5 < (x0.length : Int) then (if 0 ≤ x5 then (if x5 < (x1.length : Int) then (if (rd x0 x5) = (rd x1 x5) then (spec_l00Same.l0 k x0 x1 (wrap64 (x5 + 1))) else (some false)) else (none)) else (none)) else (some true)
def spec_l00Same.f (k : Nat) (l0 : List Int) (l1 : List Int) : Option (Bool) := if (l0.length : Int) = (l1.length : Int) then (spec_l00Same.l0 k l0 l1 0) else (some false)
theorem spec_l00Same.mono_l : ∀ k, (∀ y0 y1 y2, LeO (spec_l00Same.l0 k y0 y1 y2) (spec_l00Same.l0 (k + 1) y0 y1 y2))
  | 0 => fun _ _ _ r h => by simp [spec_l00Same.l0] at h
  | k + 1 => by
    have ih0 := spec_l00Same.mono_l k
    · intro y0 y1 y2
      unfold spec_l00Same.l0
      repeat' first
      | (with_reducible exact ih0 _ _ _)
      | (with_reducible exact LeO.refl _)
      | (with_reducible exact LeO.none _)
      | (with_reducible refine LeO.ite ?_ ?_)
      | (with_reducible refine LeO.bind ?_ (fun _ => ?_))
      | exact ih0 _ _ _
      | exact LeO.none _
      | refine LeO.ite ?_ ?_
      | refine LeO.bind ?_ (fun _ => ?_)
theorem spec_l00Same.mono : ∀ a0 a1 k, LeO (spec_l00Same.f k a0 a1) (spec_l00Same.f (k + 1) a0 a1) := by
  intro a0 a1 k
  have ih0 := spec_l00Same.mono_l k
  unfold spec_l00Same.f
  repeat' first
      | (with_reducible exact ih0 _ _ _)
      | (with_reducible exact LeO.refl _)
      | (with_reducible exact LeO.none _)
      | (with_reducible refine LeO.ite ?_ ?_)
      | (with_reducible refine LeO.bind ?_ (fun _ => ?_))
      | exact ih0 _ _ _
      | exact LeO.none _
      | refine LeO.ite ?_ ?_
      | refine LeO.bind ?_ (fun _ => ?_)
set_option maxHeartbeats 8000000 in
set_option maxRecDepth 100000 in
theorem spec_l00Same.calls (k : Nat) (A0 : Option Addr) (c0 : Nat) (l0 : List Int) (A1 : Option Addr) (c1 : Nat) (l1 : List Int) (r : Bool) (w : World) (hr0 : Kd.C (Kd.int .i64) w A0 l0.length l0) (hc0 : l0.length ≤ c0) (hr1 : Kd.C (Kd.int .i64) w A1 l1.length l1) (hc1 : l1.length ≤ c1) (h : spec_l00Same.f k l0 l1 = some r) :
    Calls Try.prog 106 #[.slice A0 l0.length c0, .slice A1 l1.length c1] w fun e w' => e = .returned (.bool r) ∧ Drawn0 w w' := by
  have HR0 := Aside0.mk hr0
  have HC0 := Aside0.mk hc0
  clear hr0 hc0
  have HR1 := Aside0.mk hr1
  have HC1 := Aside0.mk hc1
  clear hr1 hc1
  have H : (if (l0.length : Int) = (l1.length : Int) then (spec_l00Same.l0 k l0 l1 0) else (some false)) = some r := h
  clear h
  by_cases c3 : (l0.length : Int) = (l1.length : Int)
  · rw [if_pos c3] at H
    have c3b0 : ((l0.length : Int) == (l1.length : Int)) = true := beq_iff_eq.mpr c3
    have c3b1 : ((l0.length : Int) != (l1.length : Int)) = false := bne_eq_false_iff_eq.mpr c3
    have c3b2 : (l0.length == l1.length) = true := by first | simpa using c3 | (simp at c3 ⊢; omega)
    clear c3
    have H' := Aside0.mk H
    clear H
    go_enter Try.func106, Try.ntmps106
    go_wp2
    repeat (go_quiet (fail); try go_wp2)
    go_loopg [5] k (fun kq v5 w' => ∃ (x5_1 : Int), v5 = .int .i64 x5_1 ∧ Aside0 (spec_l00Same.l0 kq l0 l1 x5_1 = some r) ∧ Aside0 (kq ≤ k) ∧ Drawn0 w w')
    case atStart => exact ⟨(0), (by first | rfl | (simp; done) | (simp [*]; done)), H', ⟨Nat.le_refl _⟩, by repeat (first | exact Drawn0.refl _ | apply Drawn0.step)⟩
    case round =>
      clear H'
      try clear c1
      try clear p2
      try clear c3
      try clear c3b0
      try clear c3b1
      try clear c3b2
      obtain ⟨x5_1, rfl, HA, HK1, ⟨m1, rfl⟩⟩ := hrel
      cases gk with
      | zero => exact absurd HA.out (by simp [spec_l00Same.l0])
      | succ k1 =>
        have H := HA.out
        clear HA
        simp only [spec_l00Same.l0] at H
        by_cases c4 : x5_1 < (l0.length : Int)
        · rw [if_pos c4] at H
          have c4b0 : decide (x5_1 < (l0.length : Int)) = true := decide_eq_true c4
          clear c4
          by_cases c5 : 0 ≤ x5_1
          · rw [if_pos c5] at H
            have c5b0 : decide (0 ≤ x5_1) = true := decide_eq_true c5
            clear c5
            by_cases c6 : x5_1 < (l1.length : Int)
            · rw [if_pos c6] at H
              have c6b0 : decide (x5_1 < (l1.length : Int)) = true := decide_eq_true c6
              clear c6
              by_cases c7 : (rd l0 x5_1) = (rd l1 x5_1)
              · rw [if_pos c7] at H
                have c7b0 : ((rd l0 x5_1) == (rd l1 x5_1)) = true := beq_iff_eq.mpr c7
                have c7b1 : ((rd l0 x5_1) != (rd l1 x5_1)) = false := bne_eq_false_iff_eq.mpr c7
                clear c7
                have H' := Aside0.mk H
                clear H
                have p763 : 0 ≤ (x5_1 : Int) := of_decide_eq_true (by first | (with_reducible assumption) | assumption)
                have q763 : x5_1 < (l0.length : Int) := of_decide_eq_true (by first | (with_reducible assumption) | assumption)
                obtain ⟨ad763, e763, hx763_0⟩ := Kd.at_int HR0.out x5_1 p763 q763
                cases e763
                replace p763 := eq_true p763
                replace q763 := eq_true q763
                have p764 : 0 ≤ (x5_1 : Int) := of_decide_eq_true (by first | (with_reducible assumption) | assumption)
                have q764 : x5_1 < (l1.length : Int) := of_decide_eq_true (by first | (with_reducible assumption) | assumption)
                obtain ⟨ad764, e764, hx764_0⟩ := Kd.at_int HR1.out x5_1 p764 q764
                cases e764
                replace p764 := eq_true p764
                replace q764 := eq_true q764
                go_wp2
                repeat (go_quiet (fail); try go_wp2)
                go_roundg k1
                case measure => have := HK1.out; omega
                case rel => exact ⟨(wrap64 (x5_1 + 1)), (by first | rfl | (simp; done) | (simp [*]; done)), H', ⟨by have := HK1.out; omega⟩, by repeat (first | exact Drawn0.refl _ | apply Drawn0.step)⟩
              · rw [if_neg c7] at H
                have c7b0 : ((rd l0 x5_1) == (rd l1 x5_1)) = false := beq_eq_false_iff_ne.mpr c7
                have c7b1 : ((rd l0 x5_1) != (rd l1 x5_1)) = true := bne_iff_ne.mpr c7
                obtain rfl := Option.some.inj H
                have p763 : 0 ≤ (x5_1 : Int) := of_decide_eq_true (by first | (with_reducible assumption) | assumption)
                have q763 : x5_1 < (l0.length : Int) := of_decide_eq_true (by first | (with_reducible assumption) | assumption)
                obtain ⟨ad763, e763, hx763_0⟩ := Kd.at_int HR0.out x5_1 p763 q763
                cases e763
                replace p763 := eq_true p763
                replace q763 := eq_true q763
                have p764 : 0 ≤ (x5_1 : Int) := of_decide_eq_true (by first | (with_reducible assumption) | assumption)
                have q764 : x5_1 < (l1.length : Int) := of_decide_eq_true (by first | (with_reducible assumption) | assumption)
                obtain ⟨ad764, e764, hx764_0⟩ := Kd.at_int HR1.out x5_1 p764 q764
                cases e764
                replace p764 := eq_true p764
                replace q764 := eq_true q764
                go_wp2
                repeat (go_quiet (fail); try go_wp2)
                go_ret
                exact ⟨by first | rfl | (simp; done) | (simp [*]; done), by repeat (first | exact Drawn0.refl _ | apply Drawn0.step)⟩
            · rw [if_neg c6] at H
              exact absurd H (by simp)
          · rw [if_neg c5] at H
            exact absurd H (by simp)
        · rw [if_neg c4] at H
          have c4b0 : decide (x5_1 < (l0.length : Int)) = false := decide_eq_false c4
          clear c4
          obtain rfl := Option.some.inj H
          go_wp2
          repeat (go_quiet (fail); try go_wp2)
          go_ret
          exact ⟨by first | rfl | (simp; done) | (simp [*]; done), by repeat (first | exact Drawn0.refl _ | apply Drawn0.step)⟩
  · rw [if_neg c3] at H
    have c3b0 : ((l0.length : Int) == (l1.length : Int)) = false := beq_eq_false_iff_ne.mpr c3
    have c3b1 : ((l0.length : Int) != (l1.length : Int)) = true := bne_iff_ne.mpr c3
    have c3b2 : (l0.length == l1.length) = false := by first | simpa using c3 | (simp at c3 ⊢; omega)
    obtain rfl := Option.some.inj H
    go_enter Try.func106, Try.ntmps106
    go_wp2
    repeat (go_quiet (fail); try go_wp2)
    go_ret
    exact ⟨by first | rfl | (simp; done) | (simp [*]; done), by repeat (first | exact Drawn0.refl _ | apply Drawn0.step)⟩
end Go.Proofs.Ytmheflciiodhdaa.P
-- Written by wip/tools/mkprint.py of this repo, over the kit's print, out of the translation; Lean checks it.
namespace Go.Proofs.Ytmheflciiodhdaa.P
open Go.RowKit Go.Proofs.YtmheflciiodhdaaW.PrintWords Go.Proofs.YtmheflciiodhdaaW.PrintLast Go.Proofs.YtmheflciiodhdaaW.PrintMore
attribute [local go_sem] max2_int min2_int max_two min_two max_three min_three max_four min_four   -- for this text's walks alone
set_option linter.unusedVariables false
set_option linter.unusedSimpArgs false
/-! ### spec_SameNumbers: function 57 -/
def spec_SameNumbers.f (k : Nat) (l0 : List Int) (l1 : List Int) : Option (Bool) := (spec_l00Same.f k l0 l1).bind fun t765 => (some t765)
theorem spec_SameNumbers.mono : ∀ a0 a1 k, LeO (spec_SameNumbers.f k a0 a1) (spec_SameNumbers.f (k + 1) a0 a1) := by
  intro a0 a1 k
  unfold spec_SameNumbers.f
  repeat' first
      | (with_reducible exact spec_l00Same.mono _ _ _)
      | (with_reducible exact LeO.refl _)
      | (with_reducible exact LeO.none _)
      | (with_reducible refine LeO.ite ?_ ?_)
      | (with_reducible refine LeO.bind ?_ (fun _ => ?_))
      | exact spec_l00Same.mono _ _ _
      | exact LeO.none _
      | refine LeO.ite ?_ ?_
      | refine LeO.bind ?_ (fun _ => ?_)
set_option maxHeartbeats 8000000 in
set_option maxRecDepth 100000 in
theorem spec_SameNumbers.calls (k : Nat) (A0 : Option Addr) (c0 : Nat) (l0 : List Int) (A1 : Option Addr) (c1 : Nat) (l1 : List Int) (r : Bool) (w : World) (hr0 : Kd.C (Kd.int .i64) w A0 l0.length l0) (hc0 : l0.length ≤ c0) (hr1 : Kd.C (Kd.int .i64) w A1 l1.length l1) (hc1 : l1.length ≤ c1) (h : spec_SameNumbers.f k l0 l1 = some r) :
    Calls Try.prog 57 #[.slice A0 l0.length c0, .slice A1 l1.length c1] w fun e w' => e = .returned (.bool r) ∧ Drawn0 w w' := by
  have HR0 := Aside0.mk hr0
  have HC0 := Aside0.mk hc0
  clear hr0 hc0
  have HR1 := Aside0.mk hr1
  have HC1 := Aside0.mk hc1
  clear hr1 hc1
  have H : ((spec_l00Same.f k l0 l1).bind fun t765 => (some t765)) = some r := h
  clear h
  replace H := Option.bind_eq_some_iff.mp H
  obtain ⟨t765, A30, H⟩ := H
  replace H : (some t765) = some r := H
  have A3 := Aside0.mk A30
  clear A30
  obtain rfl := Option.some.inj H
  go_enter Try.func57, Try.ntmps57
  go_wp2_with (first | ((with_reducible refine gate_callee (f := 106) rfl ?_); refine goesL_ (some 7) rfl rfl Try.func106 (by kernel_rfl) rfl #[.slice A0 l0.length c0, .slice A1 l1.length c1] rfl (by (try simp only [List.map_toArray, List.map_cons, List.map_nil]); first | done | rfl | (simp only [List.length_drop, List.length_take]; rfl)) ?_; (with_reducible refine (spec_l00Same.calls k _ _ l0 _ _ l1 t765 _ ?side1 ?side2 ?side3 ?side4 A3.out).mono ?_); (case side1 => repeat (first | exact HR0.out | (with_reducible refine Kd.C_alloc ?_ _) | (with_reducible refine Kd.C_drewN ?_ _) | (with_reducible refine Kd.C_drew ?_))); (case side2 => exact HC0.out); (case side3 => repeat (first | exact HR1.out | (with_reducible refine Kd.C_alloc ?_ _) | (with_reducible refine Kd.C_drewN ?_ _) | (with_reducible refine Kd.C_drew ?_))); (case side4 => exact HC1.out); rintro e w' ⟨rfl, ⟨nd, rfl⟩⟩; refine ⟨_, rfl, ?_⟩))
  go_ret
  exact ⟨by first | rfl | (simp; done) | (simp [*]; done), by repeat (first | exact Drawn0.refl _ | apply Drawn0.step)⟩
end Go.Proofs.Ytmheflciiodhdaa.P
-- Written by wip/tools/mkprint.py of this repo, over the kit's print, out of the translation; Lean checks it.
namespace Go.Proofs.Ytmheflciiodhdaa.P
open Go.RowKit Go.Proofs.YtmheflciiodhdaaW.PrintWords Go.Proofs.YtmheflciiodhdaaW.PrintLast Go.Proofs.YtmheflciiodhdaaW.PrintMore
attribute [local go_sem] max2_int min2_int max_two min_two max_three min_three max_four min_four   -- for this text's walks alone
set_option linter.unusedVariables false
set_option linter.unusedSimpArgs false
/-! ### spec_TurnBottle: function 53 -/
def spec_TurnBottle.f (k : Nat) (l0 : List Int) (a1 : Int) (a2 : Int) : Option (List Int × Int) := (spec_l05Ok.f k l0).bind fun t712 => (if t712 = true then ((spec_l00In.f a1 0 (wrap64 ((l0.length : Int) - 1))).bind fun t716 => (if t716 = true then ((spec_l00In.f a2 (-7) 7).bind fun t717 => (if t717 = true then ((some (([] : List Int) : List Int)).bind fun y718 => (if y718.length + l0.length < 140737488355328 then ((some (y718 ++ l0 : List Int)).bind fun y721 => (if 0 ≤ a1 then (if a1 < (y721.length : Int) then (some ((y721.set (a1 : Int).toNat ((Int.tmod (wrap64 ((wrap64 ((wrap64 (rd y721 a1)) + a2)) + 8)) 8) % 256)), 0)) else (none)) else (none))) else (none))) else (some ((([] : List Int)), 2)))) else (some ((([] : List Int)), 2)))) else (some ((([] : List Int)), 1)))
theorem spec_TurnBottle.mono : ∀ a0 a1 a2 k, LeO (spec_TurnBottle.f k a0 a1 a2) (spec_TurnBottle.f (k + 1) a0 a1 a2) := by
  intro a0 a1 a2 k
  unfold spec_TurnBottle.f
  repeat' first
      | (with_reducible exact spec_l05Ok.mono _ _)
      | (with_reducible exact LeO.refl _)
      | (with_reducible exact LeO.none _)
      | (with_reducible refine LeO.ite ?_ ?_)
      | (with_reducible refine LeO.bind ?_ (fun _ => ?_))
      | exact spec_l05Ok.mono _ _
      | exact LeO.none _
      | refine LeO.ite ?_ ?_
      | refine LeO.bind ?_ (fun _ => ?_)
set_option maxHeartbeats 8000000 in
set_option maxRecDepth 100000 in
theorem spec_TurnBottle.calls (k : Nat) (A0 : Option Addr) (c0 : Nat) (l0 : List Int) (a1 : Int) (a2 : Int) (r1 : List Int) (r2 : Int) (w : World) (hr0 : Kd.C (Kd.int .u8) w A0 l0.length l0) (hc0 : l0.length ≤ c0) (h : spec_TurnBottle.f k l0 a1 a2 = some (r1, r2)) :
    Calls Try.prog 53 #[.slice A0 l0.length c0, .int .i64 a1, .int .i64 a2] w fun e w' => ∃ v0_ : Value, e = .returned (.tuple #[v0_, .int .i64 r2]) ∧ Kd.R (Kd.int .u8) 5 w' w.heap.size (fun _ => True) v0_ r1 ∧ Below w.heap.size w w' := by
  have HR0 := Aside0.mk hr0
  have HC0 := Aside0.mk hc0
  clear hr0 hc0
  have HB := Aside0.mk (Below.refl w.heap.size w)
  have H : ((spec_l05Ok.f k l0).bind fun t712 => (if t712 = true then ((spec_l00In.f a1 0 (wrap64 ((l0.length : Int) - 1))).bind fun t716 => (if t716 = true then ((spec_l00In.f a2 (-7) 7).bind fun t717 => (if t717 = true then ((some (([] : List Int) : List Int)).bind fun y718 => (if y718.length + l0.length < 140737488355328 then ((some (y718 ++ l0 : List Int)).bind fun y721 => (if 0 ≤ a1 then (if a1 < (y721.length : Int) then (some ((y721.set (a1 : Int).toNat ((Int.tmod (wrap64 ((wrap64 ((wrap64 (rd y721 a1)) + a2)) + 8)) 8) % 256)), 0)) else (none)) else (none))) else (none))) else (some ((([] : List Int)), 2)))) else (some ((([] : List Int)), 2)))) else (some ((([] : List Int)), 1)))) = some (r1, r2) := h
  clear h
  replace H := Option.bind_eq_some_iff.mp H
  obtain ⟨t712, A40, H⟩ := H
  replace H : (if t712 = true then ((spec_l00In.f a1 0 (wrap64 ((l0.length : Int) - 1))).bind fun t716 => (if t716 = true then ((spec_l00In.f a2 (-7) 7).bind fun t717 => (if t717 = true then ((some (([] : List Int) : List Int)).bind fun y718 => (if y718.length + l0.length < 140737488355328 then ((some (y718 ++ l0 : List Int)).bind fun y721 => (if 0 ≤ a1 then (if a1 < (y721.length : Int) then (some ((y721.set (a1 : Int).toNat ((Int.tmod (wrap64 ((wrap64 ((wrap64 (rd y721 a1)) + a2)) + 8)) 8) % 256)), 0)) else (none)) else (none))) else (none))) else (some ((([] : List Int)), 2)))) else (some ((([] : List Int)), 2)))) else (some ((([] : List Int)), 1))) = some (r1, r2) := H
  have A4 := Aside0.mk A40
  clear A40
  by_cases c5 : t712 = true
  · subst c5
    have H1 : ((spec_l00In.f a1 0 (wrap64 ((l0.length : Int) - 1))).bind fun t716 => (if t716 = true then ((spec_l00In.f a2 (-7) 7).bind fun t717 => (if t717 = true then ((some (([] : List Int) : List Int)).bind fun y718 => (if y718.length + l0.length < 140737488355328 then ((some (y718 ++ l0 : List Int)).bind fun y721 => (if 0 ≤ a1 then (if a1 < (y721.length : Int) then (some ((y721.set (a1 : Int).toNat ((Int.tmod (wrap64 ((wrap64 ((wrap64 (rd y721 a1)) + a2)) + 8)) 8) % 256)), 0)) else (none)) else (none))) else (none))) else (some ((([] : List Int)), 2)))) else (some ((([] : List Int)), 2)))) = some (r1, r2) := by rw [if_pos rfl] at H; exact H
    clear H
    have H := H1
    clear H1
    replace H := Option.bind_eq_some_iff.mp H
    obtain ⟨t716, A60, H⟩ := H
    replace H : (if t716 = true then ((spec_l00In.f a2 (-7) 7).bind fun t717 => (if t717 = true then ((some (([] : List Int) : List Int)).bind fun y718 => (if y718.length + l0.length < 140737488355328 then ((some (y718 ++ l0 : List Int)).bind fun y721 => (if 0 ≤ a1 then (if a1 < (y721.length : Int) then (some ((y721.set (a1 : Int).toNat ((Int.tmod (wrap64 ((wrap64 ((wrap64 (rd y721 a1)) + a2)) + 8)) 8) % 256)), 0)) else (none)) else (none))) else (none))) else (some ((([] : List Int)), 2)))) else (some ((([] : List Int)), 2))) = some (r1, r2) := H
    have A6 := Aside0.mk A60
    clear A60
    by_cases c7 : t716 = true
    · subst c7
      have H1 : ((spec_l00In.f a2 (-7) 7).bind fun t717 => (if t717 = true then ((some (([] : List Int) : List Int)).bind fun y718 => (if y718.length + l0.length < 140737488355328 then ((some (y718 ++ l0 : List Int)).bind fun y721 => (if 0 ≤ a1 then (if a1 < (y721.length : Int) then (some ((y721.set (a1 : Int).toNat ((Int.tmod (wrap64 ((wrap64 ((wrap64 (rd y721 a1)) + a2)) + 8)) 8) % 256)), 0)) else (none)) else (none))) else (none))) else (some ((([] : List Int)), 2)))) = some (r1, r2) := by rw [if_pos rfl] at H; exact H
      clear H
      have H := H1
      clear H1
      replace H := Option.bind_eq_some_iff.mp H
      obtain ⟨t717, A80, H⟩ := H
      replace H : (if t717 = true then ((some (([] : List Int) : List Int)).bind fun y718 => (if y718.length + l0.length < 140737488355328 then ((some (y718 ++ l0 : List Int)).bind fun y721 => (if 0 ≤ a1 then (if a1 < (y721.length : Int) then (some ((y721.set (a1 : Int).toNat ((Int.tmod (wrap64 ((wrap64 ((wrap64 (rd y721 a1)) + a2)) + 8)) 8) % 256)), 0)) else (none)) else (none))) else (none))) else (some ((([] : List Int)), 2))) = some (r1, r2) := H
      have A8 := Aside0.mk A80
      clear A80
      by_cases c9 : t717 = true
      · subst c9
        have H1 : ((some (([] : List Int) : List Int)).bind fun y718 => (if y718.length + l0.length < 140737488355328 then ((some (y718 ++ l0 : List Int)).bind fun y721 => (if 0 ≤ a1 then (if a1 < (y721.length : Int) then (some ((y721.set (a1 : Int).toNat ((Int.tmod (wrap64 ((wrap64 ((wrap64 (rd y721 a1)) + a2)) + 8)) 8) % 256)), 0)) else (none)) else (none))) else (none))) = some (r1, r2) := by rw [if_pos rfl] at H; exact H
        clear H
        have H := H1
        clear H1
        obtain ⟨y718, hy718⟩ : ∃ y_ : List Int, y_ = (([] : List Int)) := ⟨_, rfl⟩
        replace H : (if y718.length + l0.length < 140737488355328 then ((some (y718 ++ l0 : List Int)).bind fun y721 => (if 0 ≤ a1 then (if a1 < (y721.length : Int) then (some ((y721.set (a1 : Int).toNat ((Int.tmod (wrap64 ((wrap64 ((wrap64 (rd y721 a1)) + a2)) + 8)) 8) % 256)), 0)) else (none)) else (none))) else (none)) = some (r1, r2) := by first | (rw [hy718]; with_reducible exact H) | (have H2_ := (Option.bind_some _ _).symm.trans H; rw [hy718]; with_reducible exact H2_) | (have H2_ := (Option.bind_some _ _).symm.trans H; with_reducible exact H2_) | with_reducible exact H | (rw [hy718]; exact H) | exact H
        have Ny718 := Aside0.mk hy718
        clear hy718
        by_cases c10 : y718.length + l0.length < 140737488355328
        · rw [if_pos c10] at H
          have LMc10 := Aside0.mk c10
          clear c10
          obtain ⟨y721, hy721⟩ : ∃ y_ : List Int, y_ = (y718 ++ l0) := ⟨_, rfl⟩
          replace H : (if 0 ≤ a1 then (if a1 < (y721.length : Int) then (some ((y721.set (a1 : Int).toNat ((Int.tmod (wrap64 ((wrap64 ((wrap64 (rd y721 a1)) + a2)) + 8)) 8) % 256)), 0)) else (none)) else (none)) = some (r1, r2) := by first | (rw [hy721]; with_reducible exact H) | (have H2_ := (Option.bind_some _ _).symm.trans H; rw [hy721]; with_reducible exact H2_) | (have H2_ := (Option.bind_some _ _).symm.trans H; with_reducible exact H2_) | with_reducible exact H | (rw [hy721]; exact H) | exact H
          have Ny721 := Aside0.mk hy721
          clear hy721
          by_cases c11 : 0 ≤ a1
          · rw [if_pos c11] at H
            have c11b0 : decide (0 ≤ a1) = true := decide_eq_true c11
            clear c11
            by_cases c12 : a1 < (y721.length : Int)
            · rw [if_pos c12] at H
              have c12b0 : decide (a1 < (y721.length : Int)) = true := decide_eq_true c12
              clear c12
              obtain ⟨y725, hy725⟩ : ∃ y_ : List Int, y_ = (y721.set (a1 : Int).toNat ((Int.tmod (wrap64 ((wrap64 ((wrap64 (rd y721 a1)) + a2)) + 8)) 8) % 256)) := ⟨_, rfl⟩
              replace H : (some (y725, 0)) = some (r1, r2) := by first | (rw [hy725]; with_reducible exact H) | (have H2_ := (Option.bind_some _ _).symm.trans H; rw [hy725]; with_reducible exact H2_) | (have H2_ := (Option.bind_some _ _).symm.trans H; with_reducible exact H2_) | with_reducible exact H | (rw [hy725]; exact H) | exact H
              have Ny725 := Aside0.mk hy725
              clear hy725
              simp only [Option.some.injEq, Prod.mk.injEq] at H
              obtain ⟨rfl, rfl⟩ := H
              go_enter Try.func53, Try.ntmps53
              go_wp2_with (first | ((with_reducible refine gate_callee (f := 75) rfl ?_); refine goesL_ (some 10) rfl rfl Try.func75 (by kernel_rfl) rfl #[.slice A0 l0.length c0] rfl (by (try simp only [List.map_toArray, List.map_cons, List.map_nil]); first | done | rfl | (simp only [List.length_drop, List.length_take]; rfl)) ?_; (with_reducible refine (spec_l05Ok.calls k _ _ l0 true _ ?side1 ?side2 A4.out).mono ?_); (case side1 => repeat (first | exact HR0.out | (with_reducible refine Kd.C_alloc ?_ _) | (with_reducible refine Kd.C_drewN ?_ _) | (with_reducible refine Kd.C_drew ?_))); (case side2 => exact HC0.out); rintro e w' ⟨rfl, ⟨nd, rfl⟩⟩; refine ⟨_, rfl, ?_⟩) | ((with_reducible refine gate_callee (f := 102) rfl ?_); refine goesL_ (some 17) rfl rfl Try.func102 (by kernel_rfl) rfl #[.int .i64 a1, .int .i64 0, .int .i64 (wrap64 ((l0.length : Int) - 1))] rfl (by (try simp only [List.map_toArray, List.map_cons, List.map_nil]); first | done | rfl | (simp only [List.length_drop, List.length_take]; rfl)) ?_; (with_reducible refine (spec_l00In.calls a1 0 (wrap64 ((l0.length : Int) - 1)) true _ A6.out).mono ?_); rintro e w' ⟨rfl, ⟨nd, rfl⟩⟩; refine ⟨_, rfl, ?_⟩) | (go_at_call 102; (with_reducible refine (spec_l00In.calls a2 (-7) 7 true _ A8.out).mono ?_); rintro e w' ⟨rfl, ⟨nd, rfl⟩⟩) | ((with_reducible refine gate_dst (N := 25) rfl ?_); refine Kd.R_lit (Kd.int .u8) _ 5 ?hg (N := 25) ?hd (xs := ([] : List Int)) (inner := []) (ok := fun _ => True) (okp := fun _ => True) ?hr ?hp (fun _ hk => hk) trivial (Below.refl _ _) (Nat.le_refl _) (by simp) ?_; (case hd => rfl); (case hg => rfl); (case hr => first | (go_simp; done) | (go_simp; rfl)); (case hp => exact (Reps.none _ _)); intro v719 w14 ho15 hb hg_ hnew_; clear hg_ hnew_; (first | rw [← Ny718.out] at ho15 | (simp only [Int.reduceToNat] at ho15; rw [← Ny718.out] at ho15)); have n0_ := Aside0.mk (Kd.R_lower ho15 (below_size (by repeat (first | (with_reducible first | exact HB.out | apply below_alloc | apply pw_below_drewN | apply below_drew1) | exact HB.out)))); have n1_ := Aside0.mk (below_step (by repeat (first | (with_reducible first | exact HB.out | apply below_alloc | apply pw_below_drewN | apply below_drew1) | exact HB.out)) hb); clear HB; have HO720 := n0_; have HB := n1_; clear n0_ n1_; clear hb ho15) | ((with_reducible refine gate_builtin (b := .append) (xs := #[.tmp 25, .tmp 26]) rfl ?_); at_builtin; refine Kd.R_append_rows (Kd.int .u8) (w0 := w) w.heap.size rfl (.tmp 25) (.tmp 26) 24 5 (.int .u8 0) 1 rfl Try.underlying24 info5 rfl (by decide) (by omega) v719 y718 l0 _ _ _ (fun _ => True) (fun _ => False) rfl rfl ?aO ?aR (fun _ _ h => h) (fun _ h => h.elim) ?aF ?aB ?aS ?aL ?_; (case aR => repeat (first | exact (Kd.C_below HR0.out HB.out) | (with_reducible refine Kd.C_alloc ?_ _) | (with_reducible refine Kd.C_drewN ?_ _) | (with_reducible refine Kd.C_drew ?_))); (case aB => exact (by repeat (first | (with_reducible first | exact HB.out | apply below_alloc | apply pw_below_drewN | apply below_drew1) | exact HB.out))); (case aF => exact (fun _ _ => trivial)); (case aO => exact (by (with_reducible repeat (first | apply Kd.R_alloc | apply Kd.R_drewN | apply Kd.R_drew)); exact HO720.out)); (case aS => exact (below_size (by repeat (first | (with_reducible first | exact HB.out | apply below_alloc | apply pw_below_drewN | apply below_drew1) | exact HB.out)))); (case aL => have := LMc10.out; omega); intro v722 w16 ho hb hg hat; rw [← Ny721.out] at ho; have n0_ := Aside0.mk (hb); have n1_ := Aside0.mk (ho); clear HB; clear HO720; have HB := n0_; have HO723 := n1_; clear n0_ n1_; clear ho hb hg hat; obtain ⟨Ao17, co17, eo17⟩ := Kd.R_slice HO723.out; subst eo17; have p724 : 0 ≤ (a1 : Int) := of_decide_eq_true (by first | (with_reducible assumption) | assumption); have q724 : a1 < (y721.length : Int) := of_decide_eq_true (by first | (with_reducible assumption) | assumption); obtain ⟨ad724, e724, hx724_0⟩ := Kd.at_int (Kd.R_reads' HO723.out).2.2 a1 p724 q724; cases e724; replace p724 := eq_true p724; replace q724 := eq_true q724; have p13 : 0 ≤ (a1 : Int) := of_decide_eq_true (by first | (with_reducible assumption) | assumption); have q13 : (a1 : Int) < ((y721.length : Int) : Int) := of_decide_eq_true (by first | (with_reducible assumption) | assumption); obtain ⟨go13, co13, eo13, gb13, gl13, cl13, HG13⟩ := Kd.R_form HO723.out (by omega); (first | cases eo13 | (injection eo13 with ea_ en_ ec_; (first | subst ea_ | (injection ea_ with ea_; subst ea_)); subst ec_; clear en_)); have GB13 := Aside0.mk gb13; have GG13 := Aside0.mk HG13; clear gb13 gl13 HG13; (first | simp only [add_plain] at hx724_0 | skip); obtain ⟨hx13_0, hf13_0⟩ := Kd.R_celln 0 HO723.out (a1 : Int) p13 q13; replace p13 := eq_true p13; replace q13 := eq_true q13; obtain ⟨hy18_, hz18_⟩ := Kd.R_celln 0 HO723.out (a1 : Int) (of_decide_eq_true (by first | (with_reducible assumption) | assumption)) (of_decide_eq_true (by first | (with_reducible assumption) | assumption)); have HP18 := Kd.R_putg HO723.out (a1 : Int) ((Int.tmod (wrap64 ((wrap64 ((wrap64 (rd y721 a1)) + a2)) + 8)) 8) % 256)) | ((with_reducible refine gate_store (t := 5) (p := 40) rfl ?_); refine store_event (t := 5) (p := 40) (v := ?vo_w19) (w1 := (w16.setCell ⟨go13, (a1 : Int).toNat, none⟩ (.int .u8 ((Int.tmod (wrap64 ((wrap64 ((wrap64 (rd y721 a1)) + a2)) + 8)) 8) % 256)))) ?hg ?ho ?hn ?hr ?_; (case ho => rfl); (case hg => rfl); (case hn => rfl); (case hr => first | (go_simp; done) | (go_simp; rfl)); intro w19 hw; have hg : w16.grownBy w19 (some go13) := (by rw [hw]; exact HP18.2); have hp_ : Kd.R (Kd.int .u8) 5 w19 w.heap.size (fun _ => True) (.slice (some ⟨go13, 0, none⟩) y721.length co17) y725 := (by rw [hw, Ny725.out]; exact HP18.1); clear HP18; have n0_ := Aside0.mk (hp_); have n1_ := Aside0.mk ((by rw [hw]; exact below_set (HB.out) GB13.out : Below w.heap.size w w19)); clear HO723; clear HB; have HO723 := n0_; have HB := n1_; clear n0_ n1_; clear hg hw hp_))
              go_ret2
              exact ⟨_, by first | rfl | (simp [errW_none, errW_some] <;> rfl) | (simp [*, errW_none, errW_some] <;> rfl), by (with_reducible repeat (first | apply Kd.R_alloc | apply Kd.R_drewN | apply Kd.R_drew)); exact HO723.out, by repeat (first | (with_reducible first | exact HB.out | apply below_alloc | apply pw_below_drewN | apply below_drew1) | exact HB.out)⟩
            · rw [if_neg c12] at H
              exact absurd H (by simp)
          · rw [if_neg c11] at H
            exact absurd H (by simp)
        · rw [if_neg c10] at H
          exact absurd H (by simp)
      · replace c9 := Bool.eq_false_iff.mpr c9
        subst c9
        have H1 : (some ((([] : List Int)), 2)) = some (r1, r2) := by rw [if_neg (show ¬ (false = true) by decide)] at H; exact H
        clear H
        have H := H1
        clear H1
        obtain ⟨y726, hy726⟩ : ∃ y_ : List Int, y_ = (([] : List Int)) := ⟨_, rfl⟩
        replace H : (some (y726, 2)) = some (r1, r2) := by first | (rw [hy726]; with_reducible exact H) | (have H2_ := (Option.bind_some _ _).symm.trans H; rw [hy726]; with_reducible exact H2_) | (have H2_ := (Option.bind_some _ _).symm.trans H; with_reducible exact H2_) | with_reducible exact H | (rw [hy726]; exact H) | exact H
        have Ny726 := Aside0.mk hy726
        clear hy726
        simp only [Option.some.injEq, Prod.mk.injEq] at H
        obtain ⟨rfl, rfl⟩ := H
        go_enter Try.func53, Try.ntmps53
        go_wp2_with (first | ((with_reducible refine gate_callee (f := 75) rfl ?_); refine goesL_ (some 10) rfl rfl Try.func75 (by kernel_rfl) rfl #[.slice A0 l0.length c0] rfl (by (try simp only [List.map_toArray, List.map_cons, List.map_nil]); first | done | rfl | (simp only [List.length_drop, List.length_take]; rfl)) ?_; (with_reducible refine (spec_l05Ok.calls k _ _ l0 true _ ?side1 ?side2 A4.out).mono ?_); (case side1 => repeat (first | exact HR0.out | (with_reducible refine Kd.C_alloc ?_ _) | (with_reducible refine Kd.C_drewN ?_ _) | (with_reducible refine Kd.C_drew ?_))); (case side2 => exact HC0.out); rintro e w' ⟨rfl, ⟨nd, rfl⟩⟩; refine ⟨_, rfl, ?_⟩) | ((with_reducible refine gate_callee (f := 102) rfl ?_); refine goesL_ (some 17) rfl rfl Try.func102 (by kernel_rfl) rfl #[.int .i64 a1, .int .i64 0, .int .i64 (wrap64 ((l0.length : Int) - 1))] rfl (by (try simp only [List.map_toArray, List.map_cons, List.map_nil]); first | done | rfl | (simp only [List.length_drop, List.length_take]; rfl)) ?_; (with_reducible refine (spec_l00In.calls a1 0 (wrap64 ((l0.length : Int) - 1)) true _ A6.out).mono ?_); rintro e w' ⟨rfl, ⟨nd, rfl⟩⟩; refine ⟨_, rfl, ?_⟩) | (go_at_call 102; (with_reducible refine (spec_l00In.calls a2 (-7) 7 false _ A8.out).mono ?_); rintro e w' ⟨rfl, ⟨nd, rfl⟩⟩) | ((with_reducible refine gate_dst (N := 24) rfl ?_); refine Kd.R_lit (Kd.int .u8) _ 5 ?hg (N := 24) ?hd (xs := ([] : List Int)) (inner := []) (ok := fun _ => True) (okp := fun _ => True) ?hr ?hp (fun _ hk => hk) trivial (Below.refl _ _) (Nat.le_refl _) (by simp) ?_; (case hd => rfl); (case hg => rfl); (case hr => first | (go_simp; done) | (go_simp; rfl)); (case hp => exact (Reps.none _ _)); intro v727 w20 ho21 hb hg_ hnew_; clear hg_ hnew_; (first | rw [← Ny726.out] at ho21 | (simp only [Int.reduceToNat] at ho21; rw [← Ny726.out] at ho21)); have n0_ := Aside0.mk (Kd.R_lower ho21 (below_size (by repeat (first | (with_reducible first | exact HB.out | apply below_alloc | apply pw_below_drewN | apply below_drew1) | exact HB.out)))); have n1_ := Aside0.mk (below_step (by repeat (first | (with_reducible first | exact HB.out | apply below_alloc | apply pw_below_drewN | apply below_drew1) | exact HB.out)) hb); clear HB; have HO728 := n0_; have HB := n1_; clear n0_ n1_; clear hb ho21))
        go_ret2
        exact ⟨_, by first | rfl | (simp [errW_none, errW_some] <;> rfl) | (simp [*, errW_none, errW_some] <;> rfl), by (with_reducible repeat (first | apply Kd.R_alloc | apply Kd.R_drewN | apply Kd.R_drew)); exact HO728.out, by repeat (first | (with_reducible first | exact HB.out | apply below_alloc | apply pw_below_drewN | apply below_drew1) | exact HB.out)⟩
    · replace c7 := Bool.eq_false_iff.mpr c7
      subst c7
      have H1 : (some ((([] : List Int)), 2)) = some (r1, r2) := by rw [if_neg (show ¬ (false = true) by decide)] at H; exact H
      clear H
      have H := H1
      clear H1
      obtain ⟨y729, hy729⟩ : ∃ y_ : List Int, y_ = (([] : List Int)) := ⟨_, rfl⟩
      replace H : (some (y729, 2)) = some (r1, r2) := by first | (rw [hy729]; with_reducible exact H) | (have H2_ := (Option.bind_some _ _).symm.trans H; rw [hy729]; with_reducible exact H2_) | (have H2_ := (Option.bind_some _ _).symm.trans H; with_reducible exact H2_) | with_reducible exact H | (rw [hy729]; exact H) | exact H
      have Ny729 := Aside0.mk hy729
      clear hy729
      simp only [Option.some.injEq, Prod.mk.injEq] at H
      obtain ⟨rfl, rfl⟩ := H
      go_enter Try.func53, Try.ntmps53
      go_wp2_with (first | ((with_reducible refine gate_callee (f := 75) rfl ?_); refine goesL_ (some 10) rfl rfl Try.func75 (by kernel_rfl) rfl #[.slice A0 l0.length c0] rfl (by (try simp only [List.map_toArray, List.map_cons, List.map_nil]); first | done | rfl | (simp only [List.length_drop, List.length_take]; rfl)) ?_; (with_reducible refine (spec_l05Ok.calls k _ _ l0 true _ ?side1 ?side2 A4.out).mono ?_); (case side1 => repeat (first | exact HR0.out | (with_reducible refine Kd.C_alloc ?_ _) | (with_reducible refine Kd.C_drewN ?_ _) | (with_reducible refine Kd.C_drew ?_))); (case side2 => exact HC0.out); rintro e w' ⟨rfl, ⟨nd, rfl⟩⟩; refine ⟨_, rfl, ?_⟩) | ((with_reducible refine gate_callee (f := 102) rfl ?_); refine goesL_ (some 17) rfl rfl Try.func102 (by kernel_rfl) rfl #[.int .i64 a1, .int .i64 0, .int .i64 (wrap64 ((l0.length : Int) - 1))] rfl (by (try simp only [List.map_toArray, List.map_cons, List.map_nil]); first | done | rfl | (simp only [List.length_drop, List.length_take]; rfl)) ?_; (with_reducible refine (spec_l00In.calls a1 0 (wrap64 ((l0.length : Int) - 1)) false _ A6.out).mono ?_); rintro e w' ⟨rfl, ⟨nd, rfl⟩⟩; refine ⟨_, rfl, ?_⟩) | ((with_reducible refine gate_dst (N := 24) rfl ?_); refine Kd.R_lit (Kd.int .u8) _ 5 ?hg (N := 24) ?hd (xs := ([] : List Int)) (inner := []) (ok := fun _ => True) (okp := fun _ => True) ?hr ?hp (fun _ hk => hk) trivial (Below.refl _ _) (Nat.le_refl _) (by simp) ?_; (case hd => rfl); (case hg => rfl); (case hr => first | (go_simp; done) | (go_simp; rfl)); (case hp => exact (Reps.none _ _)); intro v730 w22 ho23 hb hg_ hnew_; clear hg_ hnew_; (first | rw [← Ny729.out] at ho23 | (simp only [Int.reduceToNat] at ho23; rw [← Ny729.out] at ho23)); have n0_ := Aside0.mk (Kd.R_lower ho23 (below_size (by repeat (first | (with_reducible first | exact HB.out | apply below_alloc | apply pw_below_drewN | apply below_drew1) | exact HB.out)))); have n1_ := Aside0.mk (below_step (by repeat (first | (with_reducible first | exact HB.out | apply below_alloc | apply pw_below_drewN | apply below_drew1) | exact HB.out)) hb); clear HB; have HO731 := n0_; have HB := n1_; clear n0_ n1_; clear hb ho23))
      go_ret2
      exact ⟨_, by first | rfl | (simp [errW_none, errW_some] <;> rfl) | (simp [*, errW_none, errW_some] <;> rfl), by (with_reducible repeat (first | apply Kd.R_alloc | apply Kd.R_drewN | apply Kd.R_drew)); exact HO731.out, by repeat (first | (with_reducible first | exact HB.out | apply below_alloc | apply pw_below_drewN | apply below_drew1) | exact HB.out)⟩
  · replace c5 := Bool.eq_false_iff.mpr c5
    subst c5
    have H1 : (some ((([] : List Int)), 1)) = some (r1, r2) := by rw [if_neg (show ¬ (false = true) by decide)] at H; exact H
    clear H
    have H := H1
    clear H1
    obtain ⟨y713, hy713⟩ : ∃ y_ : List Int, y_ = (([] : List Int)) := ⟨_, rfl⟩
    replace H : (some (y713, 1)) = some (r1, r2) := by first | (rw [hy713]; with_reducible exact H) | (have H2_ := (Option.bind_some _ _).symm.trans H; rw [hy713]; with_reducible exact H2_) | (have H2_ := (Option.bind_some _ _).symm.trans H; with_reducible exact H2_) | with_reducible exact H | (rw [hy713]; exact H) | exact H
    have Ny713 := Aside0.mk hy713
    clear hy713
    simp only [Option.some.injEq, Prod.mk.injEq] at H
    obtain ⟨rfl, rfl⟩ := H
    go_enter Try.func53, Try.ntmps53
    go_wp2_with (first | ((with_reducible refine gate_callee (f := 75) rfl ?_); refine goesL_ (some 10) rfl rfl Try.func75 (by kernel_rfl) rfl #[.slice A0 l0.length c0] rfl (by (try simp only [List.map_toArray, List.map_cons, List.map_nil]); first | done | rfl | (simp only [List.length_drop, List.length_take]; rfl)) ?_; (with_reducible refine (spec_l05Ok.calls k _ _ l0 false _ ?side1 ?side2 A4.out).mono ?_); (case side1 => repeat (first | exact HR0.out | (with_reducible refine Kd.C_alloc ?_ _) | (with_reducible refine Kd.C_drewN ?_ _) | (with_reducible refine Kd.C_drew ?_))); (case side2 => exact HC0.out); rintro e w' ⟨rfl, ⟨nd, rfl⟩⟩; refine ⟨_, rfl, ?_⟩) | ((with_reducible refine gate_dst (N := 12) rfl ?_); refine Kd.R_lit (Kd.int .u8) _ 5 ?hg (N := 12) ?hd (xs := ([] : List Int)) (inner := []) (ok := fun _ => True) (okp := fun _ => True) ?hr ?hp (fun _ hk => hk) trivial (Below.refl _ _) (Nat.le_refl _) (by simp) ?_; (case hd => rfl); (case hg => rfl); (case hr => first | (go_simp; done) | (go_simp; rfl)); (case hp => exact (Reps.none _ _)); intro v714 w24 ho25 hb hg_ hnew_; clear hg_ hnew_; (first | rw [← Ny713.out] at ho25 | (simp only [Int.reduceToNat] at ho25; rw [← Ny713.out] at ho25)); have n0_ := Aside0.mk (Kd.R_lower ho25 (below_size (by repeat (first | (with_reducible first | exact HB.out | apply below_alloc | apply pw_below_drewN | apply below_drew1) | exact HB.out)))); have n1_ := Aside0.mk (below_step (by repeat (first | (with_reducible first | exact HB.out | apply below_alloc | apply pw_below_drewN | apply below_drew1) | exact HB.out)) hb); clear HB; have HO715 := n0_; have HB := n1_; clear n0_ n1_; clear hb ho25))
    go_ret2
    exact ⟨_, by first | rfl | (simp [errW_none, errW_some] <;> rfl) | (simp [*, errW_none, errW_some] <;> rfl), by (with_reducible repeat (first | apply Kd.R_alloc | apply Kd.R_drewN | apply Kd.R_drew)); exact HO715.out, by repeat (first | (with_reducible first | exact HB.out | apply below_alloc | apply pw_below_drewN | apply below_drew1) | exact HB.out)⟩
end Go.Proofs.Ytmheflciiodhdaa.P
-- Written by wip/tools/mkprint.py of this repo, over the kit's print, out of the translation; Lean checks it.
namespace Go.Proofs.Ytmheflciiodhdaa.P
open Go.RowKit Go.Proofs.YtmheflciiodhdaaW.PrintWords Go.Proofs.YtmheflciiodhdaaW.PrintLast Go.Proofs.YtmheflciiodhdaaW.PrintMore
attribute [local go_sem] max2_int min2_int max_two min_two max_three min_three max_four min_four   -- for this text's walks alone
set_option linter.unusedVariables false
set_option linter.unusedSimpArgs false
/-! ### laws_FnTurned: function 7 -/
mutual
def laws_FnTurned.j0 : Nat → List Int → List Int → Bool → Option (Bool)
  | 0, _, _, _ => none
  | k + 1, x0, x1, x50 => if x50 = true then (some true) else ((spec_P6Row.f k x0).bind fun t778 => ((spec_P6Walkers.f k x1 (t778.length : Int)).bind fun t781 => ((impl_RowText.f k t778).bind fun t784 => ((impl_ReadRow.f k t784).bind fun bt785 => ((spec_P6Pick.f x1 (t778.length : Int)).bind fun t789 => ((spec_P6Pick.f x0 15).bind fun t790 => (if bt785.2 = 0 then ((spec_SameRow.f k bt785.1 t778).bind fun t791 => (if t791 = true then ((impl_SameRow.f k bt785.1 t778).bind fun t792 => (if t792 = true then ((impl_ValidRow.f t778).bind fun t793 => (if t793 = true then ((impl_ValidWalkers.f (t778.length : Int) t781).bind fun t794 => (laws_FnTurned.j1 k x0 t778 (t778.length : Int) t781 t789 (wrap64 (t790 - 7)) (!t794))) else (laws_FnTurned.j1 k x0 t778 (t778.length : Int) t781 t789 (wrap64 (t790 - 7)) true))) else (laws_FnTurned.j1 k x0 t778 (t778.length : Int) t781 t789 (wrap64 (t790 - 7)) true))) else (laws_FnTurned.j1 k x0 t778 (t778.length : Int) t781 t789 (wrap64 (t790 - 7)) true))) else (laws_FnTurned.j1 k x0 t778 (t778.length : Int) t781 t789 (wrap64 (t790 - 7)) true))))))))
def laws_FnTurned.j1 : Nat → List Int → List Int → Int → List (S38) → Int → Int → Bool → Option (Bool)
  | 0, _, _, _, _, _, _, _ => none
  | k + 1, x0, x5, x6, x7, x10, x11, x94 => if x94 = true then (some false) else (laws_FnTurned.l0 k x0 x5 x6 x7 x10 x11 x5 0)
def laws_FnTurned.l0 : Nat → List Int → List Int → Int → List (S38) → Int → Int → List Int → Int → Option (Bool)
  | 0, _, _, _, _, _, _, _, _ => none
  | k + 1, x0, x5, x6, x7, x10, x11, x12, x13 => if x13 < 8 then ((impl_TurnBottle.f k x12 x10 x11).bind fun bt795 => ((spec_TurnBottle.f k x12 x10 x11).bind fun bt799 => (if bt795.2 = bt799.2 then (if bt795.2 = 0 then ((spec_SameRow.f k bt795.1 bt799.1).bind fun t803 => (if t803 = true then (laws_FnTurned.l0 k x0 x5 x6 x7 x10 x11 bt799.1 (wrap64 (x13 + 1))) else (some false))) else (some false)) else (some false)))) else ((spec_P6Pick.f x0 40).bind fun t804 => ((impl_RowOn.f k x5 x7 t804).bind fun bt805 => ((spec_RowOn.f k x5 x7 t804).bind fun bt809 => ((impl_DaysOf.f k x5 x7 0 t804).bind fun bt813 => ((spec_SameRow.f k x12 x5).bind fun t817 => (if t817 = true then (if bt805.2 = bt809.2 then (if bt805.2 = 0 then ((spec_SameRow.f k bt805.1 bt809.1).bind fun t818 => (if t818 = true then (if bt813.2 = 0 then ((spec_SameRow.f k bt813.1 bt809.1).bind fun t819 => (laws_FnTurned.j3 k x5 x6 x7 t804 bt809.1 (!t819))) else (laws_FnTurned.j3 k x5 x6 x7 t804 bt809.1 true)) else (laws_FnTurned.j3 k x5 x6 x7 t804 bt809.1 true))) else (laws_FnTurned.j3 k x5 x6 x7 t804 bt809.1 true)) else (laws_FnTurned.j3 k x5 x6 x7 t804 bt809.1 true)) else (laws_FnTurned.j3 k x5 x6 x7 t804 bt809.1 true)))))))
def laws_FnTurned.j3 : Nat → List Int → Int → List (S38) → Int → List Int → Bool → Option (Bool)
  | 0, _, _, _, _, _, _ => none
  | k + 1, x5, x6, x7, x18, x21, x179 => if x179 = true then (some false) else (laws_FnTurned.l1 k x5 x6 x7 x18 x21 x5 (([] : List Int)) 0)
def laws_FnTurned.l1 : Nat → List Int → Int → List (S38) → Int → List Int → List Int → List Int → Int → Option (Bool)
  | 0, _, _, _, _, _, _, _, _ => none
  | k + 1, x5, x6, x7, x18, x21, x25, x26, x27 => if x27 ≤ x18 then ((impl_DayOf.f k x25 x7 x27).bind fun bt823 => ((spec_DayOf.f k x25 x7 x27).bind fun bt827 => (if bt823.2 = bt827.2 then (if bt823.2 = 0 then ((spec_SameRow.f k bt823.1 bt827.1).bind fun t831 => (laws_FnTurned.j5 k x5 x6 x7 x18 x21 x26 x27 bt827.1 (!t831))) else (laws_FnTurned.j5 k x5 x6 x7 x18 x21 x26 x27 bt827.1 true)) else (laws_FnTurned.j5 k x5 x6 x7 x18 x21 x26 x27 bt827.1 true)))) else ((impl_UprightDays.f k x5 x7 0 x18).bind fun bt836 => ((impl_NeverTurned.f k x6 x7).bind fun bt840 => ((spec_NeverTurned.f k x6 x7).bind fun bt844 => ((spec_SameRow.f k x25 x21).bind fun t848 => (if t848 = true then (if bt836.2 = 0 then ((spec_SameNumbers.f k bt836.1 x26).bind fun t849 => (if t849 = true then (if bt840.2 = bt844.2 then (if bt840.2 = 0 then ((spec_SameNumbers.f k bt840.1 bt844.1).bind fun t850 => (laws_FnTurned.j7 k x5 x6 x7 x21 bt844.1 (!t850))) else (laws_FnTurned.j7 k x5 x6 x7 x21 bt844.1 true)) else (laws_FnTurned.j7 k x5 x6 x7 x21 bt844.1 true)) else (laws_FnTurned.j7 k x5 x6 x7 x21 bt844.1 true))) else (laws_FnTurned.j7 k x5 x6 x7 x21 bt844.1 true)) else (laws_FnTurned.j7 k x5 x6 x7 x21 bt844.1 true))))))
def laws_FnTurned.j5 : Nat → List Int → Int → List (S38) → Int → List Int → List Int → Int → List Int → Bool → Option (Bool)
  | 0, _, _, _, _, _, _, _, _, _ => none
  | k + 1, x5, x6, x7, x18, x21, x26, x27, x30, x213 => if x213 = true then (some false) else (laws_FnTurned.l2 k x5 x6 x7 x18 x21 x30 x26 x27 true 0)
def laws_FnTurned.l2 : Nat → List Int → Int → List (S38) → Int → List Int → List Int → List Int → Int → Bool → Int → Option (Bool)
  | 0, _, _, _, _, _, _, _, _, _, _ => none
  | k + 1, x5, x6, x7, x18, x21, x25, x26, x27, x32, x33 => if x33 < (x25.length : Int) then (if x32 = true then (if 0 ≤ x33 then (laws_FnTurned.l2 k x5 x6 x7 x18 x21 x25 x26 x27 ((rd x25 x33) == 0) (wrap64 (x33 + 1))) else (none)) else (laws_FnTurned.l2 k x5 x6 x7 x18 x21 x25 x26 x27 false (wrap64 (x33 + 1)))) else (if x32 = true then (if x26.length < 17592186044416 then (laws_FnTurned.l1 k x5 x6 x7 x18 x21 x25 (x26 ++ [x27]) (wrap64 (x27 + 1))) else (none)) else (laws_FnTurned.l1 k x5 x6 x7 x18 x21 x25 x26 (wrap64 (x27 + 1))))
def laws_FnTurned.j7 : Nat → List Int → Int → List (S38) → List Int → List Int → Bool → Option (Bool)
  | 0, _, _, _, _, _, _ => none
  | k + 1, x5, x6, x7, x21, x38, x281 => if x281 = true then (some false) else (laws_FnTurned.l3 k x5 x6 x7 x21 x38 0)
def laws_FnTurned.l3 : Nat → List Int → Int → List (S38) → List Int → List Int → Int → Option (Bool)
  | 0, _, _, _, _, _, _ => none
  | k + 1, x5, x6, x7, x21, x38, x40 => if x40 < x6 then (laws_FnTurned.l4 k x5 x6 x7 x21 x38 x40 0 0) else (some true)
def laws_FnTurned.l4 : Nat → List Int → Int → List (S38) → List Int → List Int → Int → Int → Int → Option (Bool)
  | 0, _, _, _, _, _, _, _, _ => none
  | k + 1, x5, x6, x7, x21, x38, x40, x41, x42 => if x42 < (x7.length : Int) then (if 0 ≤ x42 then ((impl_VisitsOf.f k x6 ((rd_T38 x7 x42).f0) ((rd_T38 x7 x42).f1) ((rd_T38 x7 x42).f2) ((rd_T38 x7 x42).f3) ((rd_T38 x7 x42).f4) ((rd_T38 x7 x42).f5)).bind fun bt852 => (if bt852.2 = 0 then (if (bt852.1.length : Int) = x6 then (if 0 ≤ x40 then (if x40 < (bt852.1.length : Int) then (laws_FnTurned.l4 k x5 x6 x7 x21 x38 x40 (wrap64 (x41 + (rd bt852.1 x40))) (wrap64 (x42 + 1))) else (none)) else (none)) else (some false)) else (some false))) else (none)) else ((spec_HasNumber.f k x38 x40).bind fun t857 => (if (t857 != (x41 == 0)) = true then (some false) else (if x41 = 0 then (if 0 ≤ x40 then (if x40 < (x21.length : Int) then (if x40 < (x5.length : Int) then (if (rd x21 x40) = (rd x5 x40) then (laws_FnTurned.l3 k x5 x6 x7 x21 x38 (wrap64 (x40 + 1))) else (some false)) else (none)) else (none)) else (none)) else (laws_FnTurned.l3 k x5 x6 x7 x21 x38 (wrap64 (x40 + 1))))))
end
def laws_FnTurned.f (k : Nat) (l0 : List Int) (l1 : List Int) : Option (Bool) := (laws_f6big.f l0).bind fun t776 => (if t776 = true then (laws_FnTurned.j0 k l0 l1 true) else ((laws_f6big.f l1).bind fun t777 => (laws_FnTurned.j0 k l0 l1 t777)))
end Go.Proofs.Ytmheflciiodhdaa.P
/- FnTurned: turning by eighths, days one by one and together, who never comes, texts of rows. -/
namespace Go.Proofs.Ytmheflciiodhdaa.P
open Go.RowKit Go.Proofs.YtmheflciiodhdaaW.PrintWords Go.Proofs.YtmheflciiodhdaaW.PrintLast Go.Proofs.YtmheflciiodhdaaW.PrintMore
set_option linter.unusedVariables false
theorem bt_strOfNums {xs : List Int} {i : Nat} (hi : i < xs.length) (h0 : 0 ≤ xs[i]) (h1 : xs[i] ≤ 255) : bt (strOfNums xs) (i : Int) = xs[i] := by
  have hs : i < (strOfNums xs).size := by rw [strOfNums_size]; exact hi
  have e : bt (strOfNums xs) (i : Int) = (((strOfNums xs)[i]'hs).toNat : Int) := by simp [bt, hs]
  have e2 : (strOfNums xs)[i]'hs = UInt8.ofNat (xs[i]).toNat := by
    simp [strOfNums, ByteArray.getElem_eq_getElem_data]
  rw [e, e2]
  simp
  omega
/-- A row's text is read back. -/
theorem rowText_ev {r : List Int} (hb : 1 ≤ r.length) (hb1 : r.length ≤ 60) (hr : ∀ y ∈ r, 0 ≤ y ∧ y ≤ 7) : Ev (fun k => impl_RowText.f k r) (strOfNums (r.map fun y => 48 + y)) := by
  have loop : ∀ (d i : Nat), i + d = r.length → Ev (fun k => impl_RowText.l0 k ((r.take i).map fun y => 48 + y) r (r.length : Int) (i : Int)) (strOfNums (r.map fun y => 48 + y)) := by
    intro d
    induction d with
    | zero =>
      intro i hi
      refine Ev.one (fun k => ?_)
      simp only [impl_RowText.l0]
      rw [if_neg (by omega), List.take_of_length_le (by omega)]
    | succ d ih =>
      intro i hi
      have hlt : i < r.length := by omega
      have hy := hr _ (List.getElem_mem hlt)
      refine Ev.step (fun k => ?_) (ih (i + 1) (by omega))
      simp only [impl_RowText.l0]
      rw [if_pos (by omega), if_pos (by omega), if_pos (by omega), if_pos (by simp; omega), w64 (by omega) (by omega), rd_lt hlt, List.take_succ_eq_append_getElem hlt]
      simp only [List.map_append, List.map_cons, List.map_nil]
      rw [show (48 + r[i]) % 256 = 48 + r[i] by omega]
      rfl
  have := loop r.length 0 (by omega)
  refine Ev.congr (fun k => ?_) this
  simp only [impl_RowText.f, impl_ValidRow.f, validRow_of hb hb1 hr, Option.bind_some, if_true]
  rfl
theorem readRow_ev {r : List Int} (hb : 1 ≤ r.length) (hb1 : r.length ≤ 60) (hr : ∀ y ∈ r, 0 ≤ y ∧ y ≤ 7) : Ev (fun k => impl_ReadRow.f k (strOfNums (r.map fun y => 48 + y))) (r, 0) := by
  have hsz : (strOfNums (r.map fun y => 48 + y)).size = r.length := by rw [strOfNums_size]; simp
  have loop : ∀ (d i : Nat), i + d = r.length → Ev (fun k => impl_ReadRow.l0 k (strOfNums (r.map fun y => 48 + y)) (r.take i) (r.length : Int) (i : Int)) (r, 0) := by
    intro d
    induction d with
    | zero =>
      intro i hi
      refine Ev.one (fun k => ?_)
      simp only [impl_ReadRow.l0]
      rw [if_neg (by omega), List.take_of_length_le (by omega)]
      simp only [impl_ValidRow.f, validRow_of hb hb1 hr, Option.bind_some, if_true]
    | succ d ih =>
      intro i hi
      have hlt : i < r.length := by omega
      have hy := hr _ (List.getElem_mem hlt)
      have hbt : bt (strOfNums (r.map fun y => 48 + y)) (i : Int) = 48 + r[i] := by
        have := bt_strOfNums (xs := r.map fun y => 48 + y) (i := i) (by simpa using hlt) (by simp; omega) (by simp; omega)
        simpa using this
      refine Ev.step (fun k => ?_) (ih (i + 1) (by omega))
      simp only [impl_ReadRow.l0, hbt]
      rw [if_pos (by omega), if_pos (by omega), if_pos (by omega), if_neg (by omega), if_neg (by omega), if_pos (by simp; omega), w64 (by omega) (by omega), List.take_succ_eq_append_getElem hlt, show (48 + r[i] - 48) % 256 = r[i] by omega]
      rfl
  have := loop r.length 0 (by omega)
  refine Ev.congr (fun k => ?_) this
  simp only [impl_ReadRow.f, hsz]
  rfl
/-- One bottle turned. -/
def turn1 (r : List Int) (p : Nat) (by_ : Int) : List Int := r.set p ((rd r p + by_) % 8)
theorem turn1_len (r : List Int) (p : Nat) (b : Int) : (turn1 r p b).length = r.length := by simp [turn1]
theorem turn1_bd {r : List Int} (p : Nat) (b : Int) (hr : ∀ y ∈ r, 0 ≤ y ∧ y ≤ 7) : ∀ y ∈ turn1 r p b, 0 ≤ y ∧ y ≤ 7 := fun y hy => by
  rcases List.mem_or_eq_of_mem_set hy with h | h
  · exact hr y h
  · omega
theorem turn1_turn1 {r : List Int} {p : Nat} (hp : p < r.length) (a b : Int) : turn1 (turn1 r p a) p b = turn1 r p (a + b) := by
  have e : rd (turn1 r p a) (p : Int) = (rd r p + a) % 8 := by rw [rd_lt (by rw [turn1_len]; exact hp)]; simp [turn1]
  show (turn1 r p a).set p ((rd (turn1 r p a) (p : Int) + b) % 8) = _
  rw [e]
  simp only [turn1, List.set_set]
  congr 1
  omega
theorem turn1_8 {r : List Int} {p : Nat} (hp : p < r.length) (hr : ∀ y ∈ r, 0 ≤ y ∧ y ≤ 7) (b : Int) : turn1 r p (8 * b) = r := by
  have := hr _ (List.getElem_mem hp)
  simp only [turn1, rd_lt hp]
  rw [show (r[p] + 8 * b) % 8 = r[p] by omega]
  exact List.set_getElem_self hp
theorem turn1_0 {r : List Int} {p : Nat} (hp : p < r.length) (hr : ∀ y ∈ r, 0 ≤ y ∧ y ≤ 7) : turn1 r p 0 = r := turn1_8 hp hr 0
theorem specTurn_ok {r : List Int} (hb : 1 ≤ r.length) (hb1 : r.length ≤ 60) (hr : ∀ y ∈ r, 0 ≤ y ∧ y ≤ 7) {p : Nat} (hp : p < r.length) {b : Int} (h0 : -7 ≤ b) (h1 : b ≤ 7) : Ev (fun k => spec_TurnBottle.f k r p b) (turn1 r p b, 0) := by
  have hy := hr _ (List.getElem_mem hp)
  have hok := specOk_ev r (by omega)
  rw [validRow_of hb hb1 hr] at hok
  refine Ev.bind hok (Ev.some fun k => ?_)
  simp only [if_true, l00In_inR, Option.bind_some, w64 (x := (r.length : Int) - 1) (by omega) (by omega)]
  rw [inR_iff.mpr ⟨by omega, by omega⟩, inR_iff.mpr ⟨h0, h1⟩]
  simp only [if_true, List.nil_append, List.length_nil, Nat.zero_add]
  rw [if_pos (by omega), if_pos (by omega), if_pos (by omega), rd_lt hp, w64 (x := r[p]) (by omega) (by omega), w64 (x := r[p] + b) (by omega) (by omega), w64 (by omega) (by omega), tmod_nn (by omega)]
  simp only [turn1, rd_lt hp, Int.toNat_natCast]
  rw [show (r[p] + b + 8) % 8 % 256 = (r[p] + b) % 8 by omega]
theorem implTurn_ok {r : List Int} (hb : 1 ≤ r.length) (hb1 : r.length ≤ 60) (hr : ∀ y ∈ r, 0 ≤ y ∧ y ≤ 7) {p : Nat} (hp : p < r.length) {b : Int} (h0 : -7 ≤ b) (h1 : b ≤ 7) : Ev (fun k => impl_TurnBottle.f k r p b) (turn1 r p b, 0) := by
  have hy := hr _ (List.getElem_mem hp)
  refine Ev.one (fun k => ?_)
  have hc : impl_Row_uint8_100.f r = some r := by
    unfold impl_Row_uint8_100.f
    rw [if_pos (by omega)]
  have he : ∀ z, impl_eighths.f z = some (z % 8) := fun z => congrArg some (eighth_eq z)
  simp only [impl_TurnBottle.f, impl_ValidRow.f, validRow_of hb hb1 hr, Option.bind_some, within_inR, w64 (x := (r.length : Int) - 1) (by omega) (by omega)]
  rw [inR_iff.mpr ⟨by omega, by omega⟩, inR_iff.mpr ⟨h0, h1⟩]
  simp only [if_true, impl_codeOf.f, Option.bind_some, impl_TurnBottle.j0, hc]
  rw [if_pos (by omega), if_pos (by omega), rd_lt hp, w64 (x := r[p]) (by omega) (by omega), w64 (x := r[p] + b) (by omega) (by omega), he]
  simp only [turn1, rd_lt hp, Int.toNat_natCast, Option.bind_some]
/-- Days together. -/
theorem implDaysOf_ok {r : List Int} {ws : List S38} (h : RowOk r ws) {d : Int} (h0 : 0 ≤ d) (h1 : d ≤ 399) : Ev (fun k => impl_DaysOf.f k r ws 0 d) (rowBy (fun x => untilZ x d) ws r, 0) := by
  have hu : ∀ x ∈ ws, betweenO x 0 d = some (untilZ x d) := fun x hx => by
    rw [betweenO_eq (h.hw x hx) (by omega) (by omega) (by omega) h0, show (0 : Int) - 1 = -1 by omega, until_neg (h.hw x hx)]
    congr 1; omega
  have ht : ∀ x ∈ ws, betweenT x 0 d = untilZ x d := fun x hx => by unfold betweenT; rw [hu x hx]; rfl
  have key := walked_ev h.hb h.hb1 (fun y hy => by have := h.hr y hy; omega) (fun x => betweenT x 0 d) ws h.h8 h.hw (fun x hx => by
    have := untilZ_bd' (h.hw x hx) (d := d) (by omega) (by omega)
    simp only [ht x hx]; omega)
  rw [rowBy_cong (fun x => betweenT x 0 d) (fun x => untilZ x d) ws r ht] at key
  have hs : spanC (rowOkB r ws) 0 d = 0 := by
    have hf : fromB 0 d = true := fromB_iff.mpr ⟨by omega, by omega, h0⟩
    simp only [spanC, h.B, hf, codeB_tt, if_true]
    rw [if_neg (by omega)]
  have hsp := spanCode_ev (rowOkB r ws) 0 d
  rw [hs] at hsp
  refine Ev.bind hsp ?_
  simp only [if_true]
  refine Ev.congr (fun k => ?_) (Ev.bind key (f := fun _ r => some (r, (0 : Int))) (Ev.pure _))
  rw [if_pos (List.all_eq_true.mpr fun x hx => by rw [hu x hx]; rfl)]
theorem implRowOnF_ok {r : List Int} {ws : List S38} (h : RowOk r ws) {d : Int} (h0 : 0 ≤ d) (h1 : d ≤ 10000) : Ev (fun k => impl_RowOn.f k r ws d) (rowBy (fun x => untilZ x d) ws r, 0) := by
  have key := implRowOn_ev h.hb h.hb1 (fun y hy => by have := h.hr y hy; omega) h.hw h.h8 h0 h1
  refine Ev.congr (fun k => ?_) (Ev.bind key (f := fun _ r => some (r, (0 : Int))) (Ev.pure _))
  have e : impl_rowOk.f r ws = some true := by
    have hB := h.B
    simp only [rowOkB, Bool.and_eq_true] at hB
    simp only [impl_rowOk.f, impl_ValidRow.f, impl_ValidWalkers.f, hB.1, hB.2, Option.bind_some, if_true]
  simp only [impl_RowOn.f, e, isDay_ok h0 h1, impl_codeOf.f, Option.bind_some, if_true]
theorem implUpright_ok {r : List Int} {ws : List S38} (h : RowOk r ws) {d : Int} (h0 : 0 ≤ d) (h1 : d ≤ 399) : Ev (fun k => impl_UprightDays.f k r ws 0 d) (outList ws r (d + 1).toNat 0 [], 0) := by
  have hs : spanC (rowOkB r ws) 0 d = 0 := by
    have hf : fromB 0 d = true := fromB_iff.mpr ⟨by omega, by omega, h0⟩
    simp only [spanC, h.B, hf, codeB_tt, if_true]
    rw [if_neg (by omega)]
  have hsp := spanCode_ev (rowOkB r ws) 0 d
  rw [hs] at hsp
  refine Ev.bind hsp ?_
  simp only [if_true, show ((0 : Int) ≤ 0 ∧ d ≤ 10000) = True from eq_true ⟨by omega, by omega⟩]
  rw [show d + 1 - 0 = d + 1 by omega]
  exact Ev.bind (implDays_ev h.hb h.hb1 (fun y hy => by have := h.hr y hy; omega) h.hw h.h8 (d + 1).toNat 0 [] (by omega) (by omega)) (Ev.pure _)
/-- How often a bottle is come to by all walkers. -/
def timesAt (b : Int) (i : Nat) : List S38 → Int
  | [] => 0
  | x :: r => rd (vis b x) i + timesAt b i r
theorem timesAt_bd {b : Int} (i : Nat) : ∀ (ws : List S38), (∀ x ∈ ws, WOk b x) → 0 ≤ timesAt b i ws ∧ timesAt b i ws ≤ 60 * ws.length
  | [], _ => by simp [timesAt]
  | x :: r, h => by
    have := timesAt_bd i r (fun y hy => h y (List.mem_cons_of_mem _ hy))
    have := vis_rd (h x List.mem_cons_self) i
    simp only [timesAt, List.length_cons]
    omega
theorem timesAt_zero {b : Int} (f : S38 → Int) (i : Nat) : ∀ (ws : List S38), (∀ x ∈ ws, WOk b x) → timesAt b i ws = 0 → sumAt b f i ws = 0
  | [], _, _ => rfl
  | x :: r, h, h0 => by
    have h1 := timesAt_bd i r (fun y hy => h y (List.mem_cons_of_mem _ hy))
    have h2 := vis_rd (h x List.mem_cons_self) i
    simp only [timesAt] at h0
    have e1 : rd (vis b x) i = 0 := by omega
    simp only [sumAt, e1, Int.mul_zero, Int.zero_mul]
    have := timesAt_zero f i r (fun y hy => h y (List.mem_cons_of_mem _ hy)) (by omega)
    omega
theorem timesAt_take {b : Int} (i : Nat) {ws : List S38} {m : Nat} (h : m < ws.length) : timesAt b i (ws.take (m + 1)) = timesAt b i (ws.take m) + rd (vis b (rd_T38 ws m)) i := by
  have snoc : ∀ (l : List S38) (y : S38), timesAt b i (l ++ [y]) = timesAt b i l + rd (vis b y) i := by
    intro l
    induction l with
    | nil => intro y; simp [timesAt]
    | cons x r ih => intro y; simp only [List.cons_append, timesAt, ih]; omega
  rw [List.take_succ_eq_append_getElem h, snoc]
  simp [rd_T38, h]
def never (b : Int) (ws : List S38) : Nat → List Int
  | 0 => []
  | i + 1 => if timesAt b i ws = 0 then never b ws i ++ [(i : Int)] else never b ws i
theorem never_len (b : Int) (ws : List S38) : ∀ i, (never b ws i).length ≤ i
  | 0 => by simp [never]
  | i + 1 => by
    have := never_len b ws i
    simp only [never]
    split <;> simp <;> omega
theorem never_mem (b : Int) (ws : List S38) (j : Nat) : ∀ i, ((j : Int) ∈ never b ws i ↔ j < i ∧ timesAt b j ws = 0)
  | 0 => by simp [never]
  | i + 1 => by
    have := never_mem b ws j i
    simp only [never]
    by_cases h : timesAt b i ws = 0
    · rw [if_pos h, List.mem_append, this, List.mem_singleton]
      by_cases e : j = i
      · subst e; simp [h]
      · have : ¬ ((j : Int) = (i : Int)) := by omega
        simp only [this, or_false]
        constructor <;> rintro ⟨h1, h2⟩ <;> exact ⟨by omega, h2⟩
    · rw [if_neg h, this]
      constructor
      · rintro ⟨h1, h2⟩; exact ⟨by omega, h2⟩
      · rintro ⟨h1, h2⟩
        refine ⟨?_, h2⟩
        have : j ≠ i := fun e => h (e ▸ h2)
        omega
theorem specNever_ok {b : Int} {ws : List S38} (hb : 1 ≤ b) (hb1 : b ≤ 60) (hw : ∀ x ∈ ws, WOk b x) (h8 : ws.length ≤ 8) : Ev (fun k => spec_NeverTurned.f k b ws) (never b ws b.toNat, 0) := by
  have inner : ∀ (i : Nat) (R : List Int × Int), (i : Int) < b → (never b ws i).length ≤ i → Ev (fun k => spec_NeverTurned.l0 k b ws (never b ws (i + 1)) ((i : Int) + 1)) R → ∀ (d m : Nat), m + d = ws.length → Ev (fun k => spec_NeverTurned.l1 k b ws (never b ws i) (i : Int) (timesAt b i (ws.take m)) (m : Int)) R := by
    intro i R hi hnl hR d
    induction d with
    | zero =>
      intro m hm
      rw [List.take_of_length_le (by omega)]
      by_cases ht : timesAt b i ws = 0
      · refine Ev.step (fun k => ?_) hR
        simp only [spec_NeverTurned.l1]
        rw [if_neg (by omega), if_pos ht, if_pos (by omega), w64 (by omega) (by omega)]
        simp only [never, if_pos ht]
      · refine Ev.step (fun k => ?_) hR
        simp only [spec_NeverTurned.l1]
        rw [if_neg (by omega), if_neg ht, w64 (by omega) (by omega)]
        simp only [never, if_neg ht]
    | succ d ih =>
      intro m hm
      have hlt : m < ws.length := by omega
      have hmem : rd_T38 ws (m : Int) ∈ ws := by simp [rd_T38, hlt]
      have hx := hw _ hmem
      have hvl := vis_len b (rd_T38 ws (m : Int))
      have hv := vis_rd hx (i : Int)
      have ht := timesAt_bd i (ws.take m) (fun x hx => hw x (List.mem_of_mem_take hx))
      have hl : (ws.take m).length ≤ 8 := by simp; omega
      have hh := ih (m + 1) (by omega)
      rw [timesAt_take i hlt] at hh
      refine Ev.step (f := fun k => (spec_l05Visits.f k b (rd_T38 ws m).f0 (rd_T38 ws m).f1 (rd_T38 ws m).f2 (rd_T38 ws m).f3 (rd_T38 ws m).f4 (rd_T38 ws m).f5).bind fun t756 => (if 0 ≤ (i : Int) then (if (i : Int) < (t756.length : Int) then (spec_NeverTurned.l1 k b ws (never b ws i) i (wrap64 (timesAt b i (ws.take m) + (rd t756 i))) (wrap64 ((m : Int) + 1))) else (none)) else (none))) (fun k => ?_) (Ev.bind (specVisits_ev hb hb1 hx) ?_)
      · simp only [spec_NeverTurned.l1]
        rw [if_pos (by omega), if_pos (by omega)]
      · simp only [if_pos (show (0 : Int) ≤ i by omega), if_pos (show (i : Int) < ((vis b (rd_T38 ws m)).length : Int) by omega)]
        rw [w64 (by omega) (by omega), w64 (by omega) (by omega)]
        simpa using hh
  have outer : ∀ (d i : Nat), (i : Int) + d = b → Ev (fun k => spec_NeverTurned.l0 k b ws (never b ws i) (i : Int)) (never b ws b.toNat, 0) := by
    intro d
    induction d with
    | zero =>
      intro i hi
      refine Ev.one (fun k => ?_)
      simp only [spec_NeverTurned.l0]
      rw [if_neg (by omega), show i = b.toNat by omega]
    | succ d ih =>
      intro i hi
      have hh := ih (i + 1) (by omega)
      have := inner i _ (by omega) (never_len b ws i) (by simpa using hh) ws.length 0 (by omega)
      refine Ev.step (fun k => ?_) this
      simp only [spec_NeverTurned.l0]
      rw [if_pos (by omega)]
      rfl
  have hws := specWalkers_ev b ws (by omega)
  rw [validWalkers_of hb hb1 hw h8] at hws
  have hask : Ev (fun k => spec_l05Asked.f k b ws true) 0 := Ev.bind hws (Ev.some fun k => by simp)
  refine Ev.congr (fun k => ?_) (Ev.bind hask (f := fun k t => if t = 0 then spec_NeverTurned.l0 k b ws [] 0 else some ([], t)) ?_)
  · rfl
  · simp only [if_true]
    exact outer b.toNat 0 (by omega)
theorem implNever_ok {b : Int} {ws : List S38} (hb : 1 ≤ b) (hb1 : b ≤ 60) (hw : ∀ x ∈ ws, WOk b x) (h8 : ws.length ≤ 8) : Ev (fun k => impl_NeverTurned.f k b ws) (never b ws b.toNat, 0) := by
  have fin : ∀ (S : List Int), S.length = b.toNat → (∀ i : Nat, i < b.toNat → rd S i = timesAt b i ws) → ∀ (d i : Nat), i + d = b.toNat → Ev (fun k => impl_NeverTurned.l2 k (never b ws i) S (S.length : Int) (i : Int)) (never b ws b.toNat, 0) := by
    intro S hl hS d
    induction d with
    | zero =>
      intro i hi
      refine Ev.one (fun k => ?_)
      simp only [impl_NeverTurned.l2]
      rw [if_neg (by omega), show i = b.toNat by omega]
    | succ d ih =>
      intro i hi
      have hh := ih (i + 1) (by omega)
      have hn := never_len b ws i
      refine Ev.step (fun k => ?_) hh
      simp only [impl_NeverTurned.l2]
      rw [if_pos (by omega), if_pos (by omega), if_pos (by omega), hS i (by omega), w64 (by omega) (by omega)]
      by_cases ht : timesAt b i ws = 0
      · rw [if_pos ht, if_pos (by omega)]; simp only [never, if_pos ht]; rfl
      · rw [if_neg ht]; simp only [never, if_neg ht]; rfl
  have add : ∀ (vs : List Int) (m : Nat) (R : List Int × Int) (S0 : List Int), vs.length = b.toNat → (∀ i : Nat, 0 ≤ rd vs i ∧ rd vs i ≤ 60) → (∀ i : Nat, 0 ≤ rd S0 i ∧ rd S0 i ≤ 480) → m < 8 →
      (∀ S, S.length = b.toNat → (∀ i : Nat, i < b.toNat → rd S i = rd S0 i + rd vs i) → Ev (fun k => impl_NeverTurned.l0 k b S [] ws (ws.length : Int) ((m : Int) + 1)) R) →
      ∀ (d j : Nat) (S : List Int), j + d = b.toNat → S.length = b.toNat → (∀ i : Nat, i < b.toNat → rd S i = if i < j then rd S0 i + rd vs i else rd S0 i) → Ev (fun k => impl_NeverTurned.l1 k b S [] ws (ws.length : Int) (m : Int) vs (vs.length : Int) (j : Int)) R := by
    intro vs m R S0 hvl hv h0 hm hR d
    induction d with
    | zero =>
      intro j S hj hl hS
      refine Ev.step (fun k => ?_) (hR S hl (fun i hi => by rw [hS i hi, if_pos (by omega)]))
      simp only [impl_NeverTurned.l1]
      rw [if_neg (by omega), w64 (by omega) (by omega)]
    | succ d ih =>
      intro j S hj hl hS
      have a1 := hv j
      have a2 := h0 j
      have e := hS j (by omega)
      rw [if_neg (by omega)] at e
      have hh := ih (j + 1) (S.set j (rd S j + rd vs j)) (by omega) (by simpa using hl) (fun i hi => by
        rw [rd_lt (by simp; omega)]
        simp only [List.getElem_set]
        by_cases hij : j = i
        · subst hij
          rw [if_pos rfl, if_pos (by omega), e]
        · have := hS i hi
          rw [rd_lt (by omega)] at this
          rw [if_neg hij, this]
          by_cases h : i < j
          · rw [if_pos h, if_pos (by omega)]
          · rw [if_neg h, if_neg (by omega)])
      refine Ev.step (fun k => ?_) hh
      simp only [impl_NeverTurned.l1]
      rw [if_pos (by omega), if_pos (by omega), if_pos (by omega), if_pos (by omega), w64 (x := rd S j + rd vs j) (by omega) (by omega), w64 (by omega) (by omega)]
      simp
  have walk : ∀ (d m : Nat) (S : List Int), m + d = ws.length → S.length = b.toNat → (∀ i : Nat, i < b.toNat → rd S i = timesAt b i (ws.take m)) → Ev (fun k => impl_NeverTurned.l0 k b S [] ws (ws.length : Int) (m : Int)) (never b ws b.toNat, 0) := by
    intro d
    induction d with
    | zero =>
      intro m S hm hl hS
      rw [List.take_of_length_le (by omega)] at hS
      have := fin S hl hS b.toNat 0 (by omega)
      refine Ev.step (fun k => ?_) this
      simp only [impl_NeverTurned.l0]
      rw [if_neg (by omega)]
      rfl
    | succ d ih =>
      intro m S hm hl hS
      have hlt : m < ws.length := by omega
      have hmem : rd_T38 ws (m : Int) ∈ ws := by simp [rd_T38, hlt]
      have hx := hw _ hmem
      have hbd : ∀ i : Nat, 0 ≤ rd S i ∧ rd S i ≤ 480 := fun i => by
        by_cases hi : i < b.toNat
        · rw [hS i hi]
          have ht := timesAt_bd i (ws.take m) (fun x hx => hw x (List.mem_of_mem_take hx))
          have hl : (ws.take m).length ≤ 8 := by simp; omega
          omega
        · have : rd S i = 0 := by simp only [rd, Int.toNat_natCast]; rw [List.getD_eq_getElem?_getD, List.getElem?_eq_none (by omega)]; rfl
          omega
      have := add (vis b (rd_T38 ws m)) m (never b ws b.toNat, 0) S (vis_len _ _) (fun i => vis_rd hx i) hbd (by omega) (fun S' hl' hS' => by
        have := ih (m + 1) S' (by omega) hl' (fun i hi => by rw [hS' i hi, timesAt_take i hlt, hS i hi])
        simpa using this) b.toNat 0 S (by omega) hl (fun i hi => by simp)
      refine Ev.step (f := fun k => (impl_Walker_visits.f k (rd_T38 ws m).f0 (rd_T38 ws m).f1 (rd_T38 ws m).f2 (rd_T38 ws m).f3 (rd_T38 ws m).f4 (rd_T38 ws m).f5 b).bind fun t => impl_NeverTurned.l1 k b S [] ws (ws.length : Int) (m : Int) t (t.length : Int) 0) (fun k => ?_) (Ev.bind (implVisits_ev hb hb1 hx) this)
      simp only [impl_NeverTurned.l0]
      rw [if_pos (by omega), if_pos (by omega), if_pos (by omega)]
  have key := walk ws.length 0 (List.replicate b.toNat 0) (by omega) (by simp) (fun i hi => by rw [rd_lt (by simpa using hi)]; simp [timesAt])
  refine Ev.congr (fun k => ?_) key
  simp only [impl_NeverTurned.f, impl_ValidWalkers.f, validWalkers_of hb hb1 hw h8, Option.bind_some, if_true]
  rw [if_pos (by omega), if_pos (by omega)]
  rfl
theorem implVisitsOf_ok {b : Int} (hb : 1 ≤ b) (hb1 : b ≤ 60) {x : S38} (hx : WOk b x) : Ev (fun k => impl_VisitsOf.f k b x.f0 x.f1 x.f2 x.f3 x.f4 x.f5) (vis b x, 0) := by
  have hv : validWalkers b [x] = true := validWalkers_of hb hb1 (by simpa using hx) (by simp)
  refine Ev.congr (fun k => ?_) (Ev.bind (implVisits_ev hb hb1 hx) (f := fun _ t => some (t, (0 : Int))) (Ev.pure _))
  simp only [impl_VisitsOf.f, impl_ValidWalkers.f]
  rw [show (⟨x.f0, x.f1, x.f2, x.f3, x.f4, x.f5⟩ : S38) = x from rfl, hv]
  simp
theorem has_ev (l : List Int) (hn : l.length ≤ 1048576) (a : Int) : Ev (fun k => spec_HasNumber.f k l a) (decide (a ∈ l)) := by
  have loop : ∀ (d i : Nat), i + d = l.length → Ev (fun k => spec_l00Has.l0 k l a (i : Int)) (decide (a ∈ l.drop i)) := by
    intro d
    induction d with
    | zero =>
      intro i hi
      refine Ev.one (fun k => ?_)
      simp only [spec_l00Has.l0]
      rw [if_neg (by omega), List.drop_eq_nil_of_le (by omega)]
      simp
    | succ d ih =>
      intro i hi
      have hlt : i < l.length := by omega
      rw [List.drop_eq_getElem_cons hlt]
      by_cases h : rd l (i : Int) = a
      · refine Ev.one (fun k => ?_)
        simp only [spec_l00Has.l0]
        rw [if_pos (by omega), if_pos (by omega), if_pos h]
        rw [rd_lt hlt] at h
        simp [h]
      · have hh := ih (i + 1) (by omega)
        have e : decide (a ∈ l[i] :: l.drop (i + 1)) = decide (a ∈ l.drop (i + 1)) := by
          rw [rd_lt hlt] at h
          rw [decide_eq_decide, List.mem_cons]
          exact ⟨fun q => q.resolve_left (fun q => h q.symm), Or.inr⟩
        rw [e]
        refine Ev.step (fun k => ?_) hh
        simp only [spec_l00Has.l0]
        rw [if_pos (by omega), if_pos (by omega), if_neg h, w64 (by omega) (by omega)]
        simp
  have := loop l.length 0 (by omega)
  refine Ev.congr (fun k => ?_) (Ev.bind this (f := fun _ t => some t) (Ev.pure _))
  rfl
theorem sameNumbers_ev (xs : List Int) (hn : xs.length ≤ 1048576) : Ev (fun k => spec_SameNumbers.f k xs xs) true := by
  have key := Ev.loop (fun k (_ : Unit) i => spec_l00Same.l0 k xs xs i) xs.length (fun _ _ => True) true ?_ ?_ xs.length 0 () (by omega) trivial
  · refine Ev.congr (fun k => ?_) (Ev.bind key (f := fun _ t => some t) (Ev.pure _))
    unfold spec_SameNumbers.f spec_l00Same.f
    rw [if_pos rfl]; simp
  · intro i s hi _
    refine ⟨(), trivial, fun h => Ev.step (fun k => ?_) h⟩
    simp only [spec_l00Same.l0]
    rw [if_pos (by omega), if_pos (by omega), if_pos (by omega), if_pos trivial, w64 (by omega) (by omega)]
  · exact fun _ _ => Ev.one (fun k => by simp only [spec_l00Same.l0]; rw [if_neg (by omega)])
theorem specSameT (a : List Int) (hn : a.length ≤ 1048576) : Ev (fun k => spec_SameRow.f k a a) true := by
  have := specSame_ev a a hn
  simpa using this
theorem implSameT (a : List Int) (hn : a.length ≤ 1048576) : Ev (fun k => impl_SameRow.f k a a) true := by
  have := implEqual_ev a a hn
  refine Ev.congr (fun k => rfl) (Ev.bind (by simpa using this) (f := fun _ t => some t) (Ev.pure _))
end Go.Proofs.Ytmheflciiodhdaa.P
/- Days one by one. -/
namespace Go.Proofs.Ytmheflciiodhdaa.P
open Go.RowKit Go.Proofs.YtmheflciiodhdaaW.PrintWords Go.Proofs.YtmheflciiodhdaaW.PrintLast Go.Proofs.YtmheflciiodhdaaW.PrintMore
set_option linter.unusedVariables false
theorem outList_snoc (ws : List S38) (r : List Int) : ∀ (n : Nat) (d : Int) (acc : List Int), outList ws r (n + 1) d acc = if notUpright (rowAt ws r (d + n)) = true then outList ws r n d acc else outList ws r n d acc ++ [d + n]
  | 0, d, acc => by simp [outList]
  | n + 1, d, acc => by
    rw [outList, outList_snoc ws r n (d + 1)]
    simp only [outList]
    rw [show d + 1 + (n : Int) = d + ((n + 1 : Nat) : Int) by omega]
theorem rowAt_neg {r : List Int} {ws : List S38} (h : RowOk r ws) : rowAt ws r (-1) = r := by
  unfold rowAt
  rw [rowBy_cong (fun x => untilZ x (-1)) (fun _ => 0) ws r (fun x hx => until_neg (h.hw x hx))]
  refine ext_rd (by simp [rowBy_len]) (fun i hi => ?_)
  rw [rowBy_len] at hi
  have z : ∀ (l : List S38), sumAt r.length (fun _ => 0) i l = 0 := by
    intro l
    induction l with
    | nil => rfl
    | cons x l ih => simp only [sumAt, ih, Int.zero_mul]; rfl
  rw [rowBy_rd hi, z]
  have := h.hr _ (List.getElem_mem hi)
  rw [rd_lt hi]; omega
theorem rowAt_bd (r : List Int) (ws : List S38) (d : Int) : ∀ y ∈ rowAt ws r d, 0 ≤ y ∧ y ≤ 7 := rowBy_bd _ _ _
theorem rowAt_ok {r : List Int} {ws : List S38} (h : RowOk r ws) (d : Int) : RowOk (rowAt ws r d) ws := ⟨by rw [rowAt_len]; exact h.hb, by rw [rowAt_len]; exact h.hb1, rowAt_bd _ _ _, by rw [rowAt_len]; exact h.hw, h.h8⟩
theorem rowAt_succ {r : List Int} {ws : List S38} (h : RowOk r ws) (d : Int) : rowBy (fun x => onZ x d) ws (rowAt ws r (d - 1)) = rowAt ws r d := by
  unfold rowAt
  rw [rowBy_rowBy (fun x => untilZ x (d - 1)) (fun x => onZ x d) (fun x => untilZ x d) ws r (fun x hx => by
    have := until_succ (h.hw x hx) (d - 1)
    rwa [show d - 1 + 1 = d by omega] at this)]
theorem all_take {X : List Int} {i : Nat} (h : i < X.length) : (X.take (i + 1)).all (fun x => x == 0) = ((X.take i).all (fun x => x == 0) && (rd X i == 0)) := by
  rw [List.take_succ_eq_append_getElem h, List.all_append, rd_lt h]; simp
theorem notUpright_all (X : List Int) : notUpright X = !(X.all fun x => x == 0) := by
  unfold notUpright
  rw [List.not_all_eq_any_not]; rfl
theorem never_has {b : Int} {ws : List S38} {i : Nat} (h : (i : Int) < b) : decide ((i : Int) ∈ never b ws b.toNat) = (timesAt b i ws == 0) := by
  have := never_mem b ws i b.toNat
  by_cases e : timesAt b i ws = 0
  · rw [decide_eq_true (this.mpr ⟨by omega, e⟩), e]; rfl
  · rw [decide_eq_false (fun q => e (this.mp q).2), beq_eq_false_iff_ne.mpr e]
theorem due_same {r : List Int} {ws : List S38} (h : RowOk r ws) {i : Nat} (hi : i < r.length) (d : Int) (h0 : timesAt r.length i ws = 0) : rd (rowAt ws r d) i = rd r i := by
  unfold rowAt
  rw [rowBy_rd hi, timesAt_zero _ i ws h.hw h0]
  have := h.hr _ (List.getElem_mem hi)
  rw [rd_lt hi]; omega
end Go.Proofs.Ytmheflciiodhdaa.P
/- The walk of FnTurned. -/
namespace Go.Proofs.Ytmheflciiodhdaa.P
open Go.RowKit Go.Proofs.YtmheflciiodhdaaW.PrintWords Go.Proofs.YtmheflciiodhdaaW.PrintLast Go.Proofs.YtmheflciiodhdaaW.PrintMore
attribute [local go_sem] max2_int min2_int max_two min_two max_three min_three max_four min_four
set_option linter.unusedVariables false
set_option linter.unusedSimpArgs false
namespace FnTurned
theorem SrcOk.of {c : List Int} (g : ∀ x ∈ c, (0 ≤ x ∧ x ≤ 255)) (h : ¬ (c.length : Int) > 4096) : SrcOk c := ⟨g, by omega⟩
theorem auC {p : Prop} (h : p := by repeat (first | (with_reducible exact HS0.out.r) | (with_reducible exact HS1.out.r) | (with_reducible exact HS5.out.r) | (with_reducible exact HS7.out.r) | (with_reducible exact HS8.out.r) | (with_reducible exact HS12.out.r) | (with_reducible exact HS14.out.r) | (with_reducible exact HS16.out.r) | (with_reducible exact HS19.out.r) | (with_reducible exact HS21.out.r) | (with_reducible exact HS23.out.r) | (with_reducible exact HSd.out.r) | (with_reducible exact HS28.out.r) | (with_reducible exact HS30.out.r) | (with_reducible exact HS25.out.r) | (with_reducible exact HS26.out.r) | (with_reducible exact HS34.out.r) | (with_reducible exact HS36.out.r) | (with_reducible exact HS38.out.r) | (with_reducible exact HS43.out.r) | (with_reducible refine Kd.C_below ?_ HB8a.out) | (with_reducible refine Kd.C_below ?_ HB8b.out) | (with_reducible refine Kd.C_below ?_ HB8c.out) | (with_reducible refine Kd.C_below ?_ HB8d.out) | (with_reducible refine Kd.C_below ?_ HB8e.out) | (with_reducible refine Kd.C_below ?_ HB9.out) | (with_reducible refine Kd.C_below ?_ HB10.out) | (with_reducible refine Kd.C_below ?_ HB48.out) | (with_reducible refine Kd.C_below ?_ HB47.out) | (with_reducible refine Kd.C_below ?_ HB11a.out) | (with_reducible refine Kd.C_below ?_ HB11b.out) | (with_reducible refine Kd.C_below ?_ HB20a.out) | (with_reducible refine Kd.C_below ?_ HB49.out) | (with_reducible refine Kd.C_below ?_ HB50.out) | (with_reducible refine Kd.C_below ?_ HB51.out) | (with_reducible refine Kd.C_below ?_ HBl.out) | (with_reducible refine Kd.C_below ?_ HB52.out) | (with_reducible refine Kd.C_below ?_ HB53.out) | (with_reducible refine Kd.C_below ?_ HB20b.out) | (with_reducible refine Kd.C_below ?_ HB11c.out) | (with_reducible refine Kd.C_below ?_ HB40.out) | (with_reducible refine Kd.C_below ?_ HB12.out) | (with_reducible refine Kd.C_below ?_ HB54.out) | (with_reducible refine Kd.C_below ?_ HB20c.out) | (with_reducible refine Kd.C_below ?_ HB20d.out) | (with_reducible refine Kd.C_below ?_ HB20e.out) | (with_reducible refine Kd.C_below ?_ HBL.out) | (with_reducible refine Kd.C_below ?_ HBm.out) | (with_reducible refine Kd.C_below ?_ HB19.out) | (with_reducible refine Kd.C_below ?_ HB16.out) | (with_reducible refine Kd.C_below ?_ HB20b.out) | (with_reducible refine Kd.C_below ?_ HBi.out) | (with_reducible refine Kd.C_below ?_ HB25.out) | (with_reducible refine Kd.C_below ?_ HB55.out) | (with_reducible refine Kd.C_below ?_ HB56.out) | (with_reducible refine Kd.C_below ?_ HB20f.out) | (with_reducible refine Kd.C_below ?_ HB57a.out) | (with_reducible refine Kd.C_below ?_ HB57b.out) | (with_reducible refine Kd.C_below ?_ HBo.out) | (with_reducible refine Kd.C_below ?_ HBq.out) | (with_reducible refine Kd.C_below ?_ HB58.out) | (with_reducible refine Kd.C_alloc ?_ _) | (with_reducible refine Kd.C_drewN ?_ _) | (with_reducible refine Kd.C_drew ?_))) : p := h
theorem auL {p : Prop} (h : p := by repeat (first | (with_reducible exact HS0.out.l) | (with_reducible exact HS1.out.l) | (with_reducible exact HS5.out.l) | (with_reducible exact HS7.out.l) | (with_reducible exact HS8.out.l) | (with_reducible exact HS12.out.l) | (with_reducible exact HS14.out.l) | (with_reducible exact HS16.out.l) | (with_reducible exact HS19.out.l) | (with_reducible exact HS21.out.l) | (with_reducible exact HS23.out.l) | (with_reducible exact HSd.out.l) | (with_reducible exact HS28.out.l) | (with_reducible exact HS30.out.l) | (with_reducible exact HS25.out.l) | (with_reducible exact HS26.out.l) | (with_reducible exact HS34.out.l) | (with_reducible exact HS36.out.l) | (with_reducible exact HS38.out.l) | (with_reducible exact HS43.out.l))) : p := h
theorem auE {p : Prop} (h : p := by repeat (first | (with_reducible exact Below.refl _ _) | (with_reducible refine below_step ?_ HB8a.out) | (with_reducible refine below_step ?_ HB8b.out) | (with_reducible refine below_step ?_ HB8c.out) | (with_reducible refine below_step ?_ HB8d.out) | (with_reducible refine below_step ?_ HB8e.out) | (with_reducible refine below_step ?_ HB9.out) | (with_reducible refine below_step ?_ HB10.out) | (with_reducible refine below_step ?_ HB48.out) | (with_reducible refine below_step ?_ HB47.out) | (with_reducible refine below_step ?_ HB11a.out) | (with_reducible refine below_step ?_ HB11b.out) | (with_reducible refine below_step ?_ HB20a.out) | (with_reducible refine below_step ?_ HB49.out) | (with_reducible refine below_step ?_ HB50.out) | (with_reducible refine below_step ?_ HB51.out) | (with_reducible refine below_step ?_ HBl.out) | (with_reducible refine below_step ?_ HB52.out) | (with_reducible refine below_step ?_ HB53.out) | (with_reducible refine below_step ?_ HB20b.out) | (with_reducible refine below_step ?_ HB11c.out) | (with_reducible refine below_step ?_ HB40.out) | (with_reducible refine below_step ?_ HB12.out) | (with_reducible refine below_step ?_ HB54.out) | (with_reducible refine below_step ?_ HB20c.out) | (with_reducible refine below_step ?_ HB20d.out) | (with_reducible refine below_step ?_ HB20e.out) | (with_reducible refine below_step ?_ HBL.out) | (with_reducible refine below_step ?_ HBm.out) | (with_reducible refine below_step ?_ HB19.out) | (with_reducible refine below_step ?_ HB16.out) | (with_reducible refine below_step ?_ HB20b.out) | (with_reducible refine below_step ?_ HBi.out) | (with_reducible refine below_step ?_ HB25.out) | (with_reducible refine below_step ?_ HB55.out) | (with_reducible refine below_step ?_ HB56.out) | (with_reducible refine below_step ?_ HB20f.out) | (with_reducible refine below_step ?_ HB57a.out) | (with_reducible refine below_step ?_ HB57b.out) | (with_reducible refine below_step ?_ HBo.out) | (with_reducible refine below_step ?_ HBq.out) | (with_reducible refine below_step ?_ HB58.out) | (with_reducible refine pw_below_drewN ?_ _) | (with_reducible refine below_drew1 ?_) | (with_reducible refine below_alloc ?_ _))) : p := h
theorem auB {p : Prop} (h : p := by repeat (first | (with_reducible exact Below.refl _ _) | (with_reducible refine below_alloc ?_ _) | (with_reducible refine pw_below_drewN ?_ _) | (with_reducible refine below_drew1 ?_))) : p := h
theorem auK {p : Prop} (h : p := by repeat (first | (with_reducible refine blk_below ?_ HB8a.out) | (with_reducible refine blk_below ?_ HB8b.out) | (with_reducible refine blk_below ?_ HB8c.out) | (with_reducible refine blk_below ?_ HB8d.out) | (with_reducible refine blk_below ?_ HB8e.out) | (with_reducible refine blk_below ?_ HB9.out) | (with_reducible refine blk_below ?_ HB10.out) | (with_reducible refine blk_below ?_ HB48.out) | (with_reducible refine blk_below ?_ HB47.out) | (with_reducible refine blk_below ?_ HB11a.out) | (with_reducible refine blk_below ?_ HB11b.out) | (with_reducible refine blk_below ?_ HB20a.out) | (with_reducible refine blk_below ?_ HB49.out) | (with_reducible refine blk_below ?_ HB50.out) | (with_reducible refine blk_below ?_ HB51.out) | (with_reducible refine blk_below ?_ HBl.out) | (with_reducible refine blk_below ?_ HB52.out) | (with_reducible refine blk_below ?_ HB53.out) | (with_reducible refine blk_below ?_ HB20b.out) | (with_reducible refine blk_below ?_ HB11c.out) | (with_reducible refine blk_below ?_ HB40.out) | (with_reducible refine blk_below ?_ HB12.out) | (with_reducible refine blk_below ?_ HB54.out) | (with_reducible refine blk_below ?_ HB20c.out) | (with_reducible refine blk_below ?_ HB20d.out) | (with_reducible refine blk_below ?_ HB20e.out) | (with_reducible refine blk_below ?_ HBL.out) | (with_reducible refine blk_below ?_ HBm.out) | (with_reducible refine blk_below ?_ HB19.out) | (with_reducible refine blk_below ?_ HB16.out) | (with_reducible refine blk_below ?_ HB20b.out) | (with_reducible refine blk_below ?_ HBi.out) | (with_reducible refine blk_below ?_ HB25.out) | (with_reducible refine blk_below ?_ HB55.out) | (with_reducible refine blk_below ?_ HB56.out) | (with_reducible refine blk_below ?_ HB20f.out) | (with_reducible refine blk_below ?_ HB57a.out) | (with_reducible refine blk_below ?_ HB57b.out) | (with_reducible refine blk_below ?_ HBo.out) | (with_reducible refine blk_below ?_ HBq.out) | (with_reducible refine blk_below ?_ HB58.out) | (with_reducible refine blk_drewN ?_ _) | (with_reducible refine blk_drew ?_) | (with_reducible refine blk_alloc ?_ _))) : p := h
set_option maxHeartbeats 8000000 in
set_option maxRecDepth 100000 in
theorem walk (A0 : Option Addr) (c0 : Nat) (l0 : List Int) (A1 : Option Addr) (c1 : Nat) (l1 : List Int) (w : World) (hr0 : Kd.C (Kd.int .u8) w A0 l0.length l0) (hc0 : l0.length ≤ c0) (hr1 : Kd.C (Kd.int .u8) w A1 l1.length l1) (hc1 : l1.length ≤ c1) (g0 : ∀ x ∈ l0, 0 ≤ x ∧ x ≤ 255) (b0 : l0.length ≤ 9223372036854775807) (g1 : ∀ x ∈ l1, 0 ≤ x ∧ x ≤ 255) (b1 : l1.length ≤ 9223372036854775807) :
    Calls Try.prog 7 #[.slice A0 l0.length c0, .slice A1 l1.length c1] w fun e w' => e = .returned (.bool true) ∧ Below w.heap.size w w' := by
  have HS0 := Aside0.mk (Sl.mk hr0 hc0)
  have HS1 := Aside0.mk (Sl.mk hr1 hc1)
  clear hr0 hc0 hr1 hc1
  have hu := Try.underlying38
  by_cases h0 : (l0.length : Int) > 4096
  · have H8 := Aside0.mk (show laws_f6big.f l0 = some true by simp only [laws_f6big.f]; rw [decide_eq_true h0])
    clear h0
    go_enter Try.func7, Try.ntmps7
    go_wp2_with (go_at_call 8; (with_reducible refine (laws_f6big.calls _ _ l0 true _ auC auL H8.out).mono ?_); rintro e w8a ⟨rfl, hb⟩; replace hb := drawn_below hb; (have HB8a := Aside0.mk (below_step (show Below w.heap.size w _ from auB) hb)); clear hb)
    go_ret
    exact ⟨rfl, auE⟩
  have H8 := Aside0.mk (show laws_f6big.f l0 = some false by simp only [laws_f6big.f]; rw [decide_eq_false h0])
  by_cases h1 : (l1.length : Int) > 4096
  · have H8b := Aside0.mk (show laws_f6big.f l1 = some true by simp only [laws_f6big.f]; rw [decide_eq_true h1])
    clear h0 h1
    go_enter Try.func7, Try.ntmps7
    go_wp2_with (go_at_call 8; (with_reducible refine (laws_f6big.calls _ _ l0 false _ auC auL H8.out).mono ?_); rintro e w8b ⟨rfl, hb⟩; replace hb := drawn_below hb; (have HB8b := Aside0.mk (below_step (show Below w.heap.size w _ from auB) hb)); clear hb)
    go_wp2_with (go_at_call 8; (with_reducible refine (laws_f6big.calls _ _ l1 true _ auC auL H8b.out).mono ?_); rintro e w8c ⟨rfl, hb⟩; replace hb := drawn_below hb; (have HB8c := Aside0.mk (below_step (show Below w8b.heap.size w8b _ from auB) hb)); clear hb)
    go_ret
    exact ⟨rfl, auE⟩
  have H8b := Aside0.mk (show laws_f6big.f l1 = some false by simp only [laws_f6big.f]; rw [decide_eq_false h1])
  have hc := SrcOk.of g0 h0
  have hd := SrcOk.of g1 h1
  obtain ⟨r, hrow, r1, r7, hr⟩ := drawnRow_ev hc
  obtain ⟨ws, hws, w3, hw, hdr⟩ := drawnWalkers_ev hd (n := r.length) (by omega) (by omega)
  obtain ⟨pl, hpl, p0, p1⟩ := P6Pick_ok hd (r.length : Int)
  replace p1 := p1 (by omega)
  obtain ⟨pl, rfl⟩ : ∃ n : Nat, pl = n := ⟨pl.toNat, by omega⟩
  obtain ⟨by_, hby, y0, y1⟩ := P6Pick_ok hc 15
  replace y1 := y1 (by omega)
  obtain ⟨last, hlast, t0, t1⟩ := P6Pick_ok hc 40
  replace t1 := t1 (by omega)
  have ok : RowOk r ws := ⟨r1, by omega, hr, hw, by omega⟩
  have H7 := Aside0.mk hpl
  have H7b := Aside0.mk hby
  have H20 := Aside0.mk hlast
  have ewb : wrap64 (by_ - 7) = by_ - 7 := w64 (by omega) (by omega)
  have H50 := Aside0.mk (show impl_ValidRow.f r = some true by simp only [impl_ValidRow.f, validRow_of r1 (by omega) hr])
  have H51 := Aside0.mk (show impl_ValidWalkers.f (r.length : Int) ws = some true by simp only [impl_ValidWalkers.f, validWalkers_of (b := (r.length : Int)) (by omega) (by omega) hw (by omega)])
  obtain ⟨T, hT⟩ : ∃ T, strOfNums (r.map fun y => 48 + y) = T := ⟨_, rfl⟩
  have htx := rowText_ev r1 (by omega) hr
  have hrd := readRow_ev r1 (by omega) hr
  rw [hT] at htx hrd
  obtain ⟨V, hV⟩ : ∃ V, rowBy (fun x => untilZ x last) ws r = V := ⟨_, rfl⟩
  have hVl : V.length = r.length := by rw [← hV, rowBy_len]
  have e40 := implRowOnF_ok ok t0 (by omega)
  have e12 := specRowOn_ok ok t0 (by omega)
  have e54 := implDaysOf_ok ok t0 (by omega)
  have e25 := implUpright_ok ok t0 (by omega)
  have e55 := implNever_ok (b := (r.length : Int)) (by omega) (by omega) hw (by omega)
  have e56 := specNever_ok (b := (r.length : Int)) (by omega) (by omega) hw (by omega)
  obtain ⟨U, hU⟩ : ∃ U, outList ws r (last + 1).toNat 0 [] = U := ⟨_, rfl⟩
  obtain ⟨M, hM⟩ : ∃ M, never (r.length : Int) ws ((r.length : Int)).toNat = M := ⟨_, rfl⟩
  have hUl : U.length ≤ 1048576 := by have := outList_len ws r (last + 1).toNat 0 []; rw [hU] at this; simp at this; omega
  have hMl : M.length ≤ 1048576 := by have := never_len (r.length : Int) ws ((r.length : Int)).toNat; rw [hM] at this; omega
  rw [hV] at e40 e12 e54
  rw [hU] at e25
  rw [hM] at e55 e56
  obtain ⟨kr9, H9⟩ := Ev.rounds (hrow)
  replace H9 := Aside0.mk H9
  obtain ⟨kr10, H10⟩ := Ev.rounds (hws)
  replace H10 := Aside0.mk H10
  obtain ⟨kr48, H48⟩ := Ev.rounds (htx)
  replace H48 := Aside0.mk H48
  obtain ⟨kr47, H47⟩ := Ev.rounds (hrd)
  replace H47 := Aside0.mk H47
  obtain ⟨kr20r, H20r⟩ := Ev.rounds (specSameT r (by omega))
  replace H20r := Aside0.mk H20r
  obtain ⟨kr49, H49⟩ := Ev.rounds (implSameT r (by omega))
  replace H49 := Aside0.mk H49
  obtain ⟨kr40, H40⟩ := Ev.rounds (e40)
  replace H40 := Aside0.mk H40
  obtain ⟨kr12, H12⟩ := Ev.rounds (e12)
  replace H12 := Aside0.mk H12
  obtain ⟨kr54, H54⟩ := Ev.rounds (e54)
  replace H54 := Aside0.mk H54
  obtain ⟨kr20v, H20v⟩ := Ev.rounds (specSameT V (by omega))
  replace H20v := Aside0.mk H20v
  obtain ⟨kr25, H25⟩ := Ev.rounds (e25)
  replace H25 := Aside0.mk H25
  obtain ⟨kr55, H55⟩ := Ev.rounds (e55)
  replace H55 := Aside0.mk H55
  obtain ⟨kr56, H56⟩ := Ev.rounds (e56)
  replace H56 := Aside0.mk H56
  obtain ⟨kr57u, H57u⟩ := Ev.rounds (sameNumbers_ev U hUl)
  replace H57u := Aside0.mk H57u
  obtain ⟨kr57m, H57m⟩ := Ev.rounds (sameNumbers_ev M hMl)
  replace H57m := Aside0.mk H57m
  have HP := Aside0.mk (And.intro r1 (And.intro r7 (And.intro hr (And.intro w3 (And.intro hw (And.intro p1 (And.intro y0 (And.intro y1 (And.intro t0 (And.intro t1 (And.intro ok (And.intro hV (And.intro hVl (And.intro hU (And.intro hM hMl)))))))))))))))
  clear h0 h1 hc hd hrow r1 r7 hr hws w3 hw hdr hpl p0 p1 hby y0 y1 hlast t0 t1 ok htx hrd hT hV hVl e40 e12 e54 e25 e55 e56 hU hM hUl hMl
  go_enter Try.func7, Try.ntmps7
  go_wp2_with (go_at_call 8; (with_reducible refine (laws_f6big.calls _ _ l0 false _ auC auL H8.out).mono ?_); rintro e w8d ⟨rfl, hb⟩; replace hb := drawn_below hb; (have HB8d := Aside0.mk (below_step (show Below w.heap.size w _ from auB) hb)); clear hb)
  go_wp2_with (go_at_call 8; (with_reducible refine (laws_f6big.calls _ _ l1 false _ auC auL H8b.out).mono ?_); rintro e w8e ⟨rfl, hb⟩; replace hb := drawn_below hb; (have HB8e := Aside0.mk (below_step (show Below w8d.heap.size w8d _ from auB) hb)); clear hb)
  go_wp2_with (go_at_call 9; (with_reducible refine (spec_P6Row.calls kr9 _ _ l0 r _ auC auL H9.out).mono ?_); rintro e w9 ⟨v5, rfl, ho5, hb⟩; obtain ⟨A5, c5, rfl, hs5⟩ := ret_sl ho5; (have HS5 := Aside0.mk hs5); clear ho5 hs5; (have HB9 := Aside0.mk (below_step (show Below w8e.heap.size w8e _ from auB) hb)); clear hb)
  go_wp2_with (go_at_call 10; (with_reducible refine (spec_P6Walkers.calls kr10 _ _ l1 _ ws _ auC auL H10.out).mono ?_); rintro e w10 ⟨v7, rfl, ho7, hb⟩; obtain ⟨A7, c7, rfl, hs7⟩ := ret_sl ho7; (have HS7 := Aside0.mk hs7); clear ho7 hs7; (have HB10 := Aside0.mk (below_step (show Below w9.heap.size w9 _ from auB) hb)); clear hb)
  go_wp2_with (go_at_call 48; (with_reducible refine (impl_RowText.calls kr48 _ _ r T _ auC auL H48.out).mono ?_); rintro e w48 ⟨rfl, hb⟩; (have HB48 := Aside0.mk (below_step (show Below w10.heap.size w10 _ from auB) hb)); clear hb)
  go_wp2_with (go_at_call 47; (with_reducible refine (impl_ReadRow.calls kr47 T r 0 _ H47.out).mono ?_); rintro e w47 ⟨v8, rfl, ho8, hb⟩; obtain ⟨A8, c8, rfl, hs8⟩ := ret_sl ho8; (have HS8 := Aside0.mk hs8); clear ho8 hs8; (have HB47 := Aside0.mk (below_step (show Below w48.heap.size w48 _ from auB) hb)); clear hb)
  go_wp2_with (go_at_call 11; (with_reducible refine (spec_P6Pick.calls _ _ l1 _ (pl : Int) _ auC auL H7.out).mono ?_); rintro e w11a ⟨rfl, hb⟩; (have HB11a := Aside0.mk (below_step (show Below w47.heap.size w47 _ from auB) hb)); clear hb)
  go_wp2_with (go_at_call 11; (with_reducible refine (spec_P6Pick.calls _ _ l0 15 by_ _ auC auL H7b.out).mono ?_); rintro e w11b ⟨rfl, hb⟩; (have HB11b := Aside0.mk (below_step (show Below w11a.heap.size w11a _ from auB) hb)); clear hb)
  go_wp2_with (go_at_call 20; (with_reducible refine (spec_SameRow.calls kr20r _ _ r _ _ r true _ auC auL auC auL H20r.out).mono ?_); rintro e w20a ⟨rfl, hb⟩; replace hb := drawn_below hb; (have HB20a := Aside0.mk (below_step (show Below w11b.heap.size w11b _ from auB) hb)); clear hb)
  go_wp2_with (go_at_call 49; (with_reducible refine (impl_SameRow.calls kr49 _ _ r _ _ r true _ auC auL auC auL H49.out).mono ?_); rintro e w49 ⟨rfl, hb⟩; replace hb := drawn_below hb; (have HB49 := Aside0.mk (below_step (show Below w20a.heap.size w20a _ from auB) hb)); clear hb)
  go_wp2_with (go_at_call 50; (with_reducible refine (impl_ValidRow.calls _ _ r true _ auC auL H50.out).mono ?_); rintro e w50 ⟨rfl, hb⟩; replace hb := drawn_below hb; (have HB50 := Aside0.mk (below_step (show Below w49.heap.size w49 _ from auB) hb)); clear hb)
  go_wp2_with (go_at_call 51; (with_reducible refine (impl_ValidWalkers.calls _ _ _ ws true _ auC auL H51.out).mono ?_); rintro e w51 ⟨rfl, hb⟩; (have HB51 := Aside0.mk (below_step (show Below w50.heap.size w50 _ from auB) hb)); clear hb)
  clear H8 H8b H9 H10 H48 H47 H7 H7b H49 H50 H51
  go_loopw [12, 13] (fun v12 v13 w' => ∃ (i : Nat) (A12 : Option Addr) (c12 : Nat) (now : List Int), i ≤ 8 ∧ v12 = .slice A12 now.length c12 ∧ v13 = .int .i64 i ∧ now.length = r.length ∧ Aside0 (now = turn1 r pl (i * (by_ - 7))) ∧ Aside0 (Sl (Kd.int .u8) w' A12 c12 now) ∧ Aside0 (Below w51.heap.size w51 w')) (fun _ v13 _ => 8 - (intOf v13).toNat)
  case atStart =>
    obtain ⟨r1, r7, hr, w3, hw, p1, -⟩ := HP.out
    exact ⟨0, A5, c5, r, by omega, rfl, rfl, rfl, ⟨by simpa using (turn1_0 (by omega) hr).symm⟩, ⟨⟨auC, auL⟩⟩, ⟨auE⟩⟩
  case round =>
    obtain ⟨i, A12, c12, now, hi, rfl, rfl, hnl, HN, HS12, HBl⟩ := hrel
    by_cases hlt : i < 8
    case pos =>
      obtain ⟨r1, r7, hr, w3, hw, p1, y0, y1, -⟩ := HP.out
      have hb : ∀ y ∈ now, 0 ≤ y ∧ y ≤ 7 := by rw [HN.out]; exact turn1_bd _ _ hr
      have e1 := implTurn_ok (r := now) (by omega) (by omega) hb (p := pl) (by omega) (b := by_ - 7) (by omega) (by omega)
      have e2 := specTurn_ok (r := now) (by omega) (by omega) hb (p := pl) (by omega) (b := by_ - 7) (by omega) (by omega)
      obtain ⟨X, hX⟩ : ∃ X, turn1 now pl (by_ - 7) = X := ⟨_, rfl⟩
      have hXl : X.length = r.length := by rw [← hX, turn1_len]; exact hnl
      have HN' := Aside0.mk (show X = turn1 r pl (((i + 1 : Nat) : Int) * (by_ - 7)) by
        rw [← hX, HN.out, turn1_turn1 (by omega)]; congr 1; push_cast; rw [Int.add_mul, Int.one_mul])
      rw [hX] at e1 e2
      have e3 := specSameT X (by omega)
      obtain ⟨kr52, H52⟩ := Ev.rounds (e1)
      replace H52 := Aside0.mk H52
      obtain ⟨kr53, H53⟩ := Ev.rounds (e2)
      replace H53 := Aside0.mk H53
      obtain ⟨kr20x, H20x⟩ := Ev.rounds (e3)
      replace H20x := Aside0.mk H20x
      have HXL := Aside0.mk hXl
      have HNL := Aside0.mk hnl
      clear r1 r7 hr w3 hw p1 y0 y1 hb e1 e2 e3 hX hXl HN hnl
      go_wp2_with (go_at_call 52; (with_reducible refine (impl_TurnBottle.calls kr52 _ _ now _ _ X 0 _ auC auL H52.out).mono ?_); rintro e w52 ⟨v14, rfl, ho14, hb⟩; obtain ⟨A14, c14, rfl, hs14⟩ := ret_sl ho14; (have HS14 := Aside0.mk hs14); clear ho14 hs14; (have HB52 := Aside0.mk (below_step (show Below wr.heap.size wr _ from auB) hb)); clear hb)
      go_wp2_with (go_at_call 53; (with_reducible refine (spec_TurnBottle.calls kr53 _ _ now _ _ X 0 _ auC auL H53.out).mono ?_); rintro e w53 ⟨v16, rfl, ho16, hb⟩; obtain ⟨A16, c16, rfl, hs16⟩ := ret_sl ho16; (have HS16 := Aside0.mk hs16); clear ho16 hs16; (have HB53 := Aside0.mk (below_step (show Below w52.heap.size w52 _ from auB) hb)); clear hb)
      go_wp2_with (go_at_call 20; (with_reducible refine (spec_SameRow.calls kr20x _ _ X _ _ X true _ auC auL auC auL H20x.out).mono ?_); rintro e w20b ⟨rfl, hb⟩; replace hb := drawn_below hb; (have HB20b := Aside0.mk (below_step (show Below w53.heap.size w53 _ from auB) hb)); clear hb)
      go_roundw
      case rel => exact ⟨i + 1, A16, c16, X, by omega, rfl, by go_num, HXL.out, HN', ⟨⟨auC, auL⟩⟩, ⟨auE⟩⟩
      case measure => simp [intOf]; omega
    case neg =>
      have hie : i = 8 := by omega
      subst hie
      have hnr : now = r := by
        obtain ⟨r1, r7, hr, w3, hw, p1, -⟩ := HP.out
        rw [HN.out]
        exact turn1_8 (by omega) hr _
      have HS12' : Aside0 (Sl (Kd.int .u8) wr A12 c12 r) := ⟨hnr ▸ HS12.out⟩
      rw [hnr]
      clear HS12 hnr hnl HN hi hlt
      have HS12 := HS12'
      clear HS12'
      go_wp2_with (go_at_call 11; (with_reducible refine (spec_P6Pick.calls _ _ l0 40 last _ auC auL H20.out).mono ?_); rintro e w11c ⟨rfl, hb⟩; (have HB11c := Aside0.mk (below_step (show Below wr.heap.size wr _ from auB) hb)); clear hb)
      go_wp2_with (go_at_call 40; (with_reducible refine (impl_RowOn.calls kr40 _ _ r _ _ ws last V 0 _ auC auL auC auL H40.out).mono ?_); rintro e w40 ⟨v19, rfl, ho19, hb⟩; obtain ⟨A19, c19, rfl, hs19⟩ := ret_sl ho19; (have HS19 := Aside0.mk hs19); clear ho19 hs19; (have HB40 := Aside0.mk (below_step (show Below w11c.heap.size w11c _ from auB) hb)); clear hb)
      go_wp2_with (go_at_call 12; (with_reducible refine (spec_RowOn.calls kr12 _ _ r _ _ ws last V 0 _ auC auL auC auL H12.out).mono ?_); rintro e w12 ⟨v21, rfl, ho21, hb⟩; obtain ⟨A21, c21, rfl, hs21⟩ := ret_sl ho21; (have HS21 := Aside0.mk hs21); clear ho21 hs21; (have HB12 := Aside0.mk (below_step (show Below w40.heap.size w40 _ from auB) hb)); clear hb)
      go_wp2_with (go_at_call 54; (with_reducible refine (impl_DaysOf.calls kr54 _ _ r _ _ ws 0 last V 0 _ auC auL auC auL H54.out).mono ?_); rintro e w54 ⟨v23, rfl, ho23, hb⟩; obtain ⟨A23, c23, rfl, hs23⟩ := ret_sl ho23; (have HS23 := Aside0.mk hs23); clear ho23 hs23; (have HB54 := Aside0.mk (below_step (show Below w12.heap.size w12 _ from auB) hb)); clear hb)
      go_wp2_with (go_at_call 20; (with_reducible refine (spec_SameRow.calls kr20r _ _ r _ _ r true _ auC auL auC auL H20r.out).mono ?_); rintro e w20c ⟨rfl, hb⟩; replace hb := drawn_below hb; (have HB20c := Aside0.mk (below_step (show Below w54.heap.size w54 _ from auB) hb)); clear hb)
      go_wp2_with (first
        | (go_at_call 20; (with_reducible refine (spec_SameRow.calls kr20v A19 c19 V A21 c21 V true _ auC auL auC auL H20v.out).mono ?_); rintro e w20d ⟨rfl, hb⟩; replace hb := drawn_below hb; (have HB20d := Aside0.mk (below_step (show Below w20c.heap.size w20c _ from auB) hb)); clear hb)
        | (go_at_call 20; (with_reducible refine (spec_SameRow.calls kr20v A23 c23 V A21 c21 V true _ auC auL auC auL H20v.out).mono ?_); rintro e w20e ⟨rfl, hb⟩; replace hb := drawn_below hb; (have HB20e := Aside0.mk (below_step (show Below w20d.heap.size w20d _ from auB) hb)); clear hb)
        | ((with_reducible refine gate_dst (N := 181) rfl ?_); refine Kd.R_lit (Kd.int .i64) (w0 := w20e) w20e.heap.size 2 rfl (N := 181) rfl (xs := ([] : List Int)) (inner := []) (ok := fun _ => True) (okp := fun _ => True) ?hr (Reps.none _ _) (fun _ hk => hk) trivial (auB) (show Below w20e.heap.size w20e _ from auB).size (by simp) ?_; (case hr => first | (go_simp; done) | (go_simp; rfl)); intro v26 wL ho hb _ _; (have HO := Aside0.mk ho); (have HBL := Aside0.mk hb); clear ho hb))
      clear H20 H40 H12 H54
      go_loopw [25, 26, 27] (fun v25 v26 v27 w' => ∃ (n : Nat) (A25 : Option Addr) (c25 : Nat) (day acc : List Int), (n : Int) ≤ last + 1 ∧ v25 = .slice A25 day.length c25 ∧ v27 = .int .i64 n ∧ day.length = r.length ∧ Aside0 (day = rowAt ws r ((n : Int) - 1)) ∧ Aside0 (acc = outList ws r n 0 []) ∧ Aside0 (Dy (Kd.int .u8) 5 w20e w' A25 c25 day) ∧ Aside0 (Kd.R (Kd.int .i64) 2 w' w20e.heap.size (fun _ => True) v26 acc) ∧ Aside0 (Below w20e.heap.size w20e w')) (fun _ _ v27 _ => (last + 1 - intOf v27).toNat)
      case atStart =>
        obtain ⟨r1, r7, hr, w3, hw, p1, y0, y1, t0, t1, ok, -⟩ := HP.out
        exact ⟨0, A5, c5, r, [], by omega, rfl, rfl, rfl, ⟨(rowAt_neg ok).symm⟩, ⟨rfl⟩, ⟨.inl ⟨auC, auL⟩⟩, HO, HBL⟩
      case round =>
        clear HO HBL
        obtain ⟨n, A25, c25, day, acc, hn, rfl, rfl, hdl, HD, HA, HDy, HO, HBm⟩ := hrel
        by_cases hlt : (n : Int) ≤ last
        case pos =>
          obtain ⟨r1, r7, hr, w3, hw, p1, y0, y1, t0, t1, ok, -⟩ := HP.out
          have okd : RowOk day ws := by rw [HD.out]; exact rowAt_ok ok _
          have e1 := implDayOf_ok okd (d := (n : Int)) (by omega) (by omega)
          have e2 := specDayOf_ok okd (d := (n : Int)) (by omega) (by omega)
          have hX0 : rowBy (fun x => onZ x (n : Int)) ws day = rowAt ws r (n : Int) := by rw [HD.out]; exact rowAt_succ ok _
          obtain ⟨X, hX⟩ : ∃ X, rowAt ws r (n : Int) = X := ⟨_, rfl⟩
          rw [hX0, hX] at e1 e2
          have hXl : X.length = r.length := by rw [← hX, rowAt_len]
          have e3 := specSameT X (by omega)
          have HXL := Aside0.mk hXl
          have HDL := Aside0.mk hdl
          have HXE := Aside0.mk hX
          have HNB := Aside0.mk (And.intro hlt (And.intro t1 (And.intro r1 r7)))
          have hal : acc.length ≤ n := by have := outList_len ws r n 0 []; rw [← HA.out] at this; simpa using this
          have HAL := Aside0.mk hal
          have HSd := Aside0.mk (HDy.out.sl HBm.out)
          have hlt' := eq_true hlt
          have hnb : (n : Int) ≤ 39 := by omega
          obtain ⟨kr19, H19⟩ := Ev.rounds (e1)
          replace H19 := Aside0.mk H19
          obtain ⟨kr16, H16⟩ := Ev.rounds (e2)
          replace H16 := Aside0.mk H16
          obtain ⟨kr20x, H20x⟩ := Ev.rounds (e3)
          replace H20x := Aside0.mk H20x
          clear r1 r7 hr w3 hw p1 y0 y1 t0 t1 ok okd e1 e2 e3 hX0 hX hXl hal hdl hlt
          go_wp2_with (go_at_call 19; (with_reducible refine (impl_DayOf.calls kr19 _ _ day _ _ ws _ X 0 _ auC auL auC auL H19.out).mono ?_); rintro e w19 ⟨v28, rfl, ho28, hb⟩; obtain ⟨A28, c28, rfl, hs28⟩ := ret_sl ho28; (have HS28 := Aside0.mk hs28); clear ho28 hs28; (have HB19 := Aside0.mk (below_step (show Below wr.heap.size wr _ from auB) hb)); clear hb)
          go_wp2_with (go_at_call 16; (with_reducible refine (spec_DayOf.calls kr16 _ _ day _ _ ws _ X 0 _ auC auL auC auL H16.out).mono ?_); rintro e w16 ⟨v30, rfl, ho30, hb⟩; obtain ⟨A30, c30, rfl, hs30⟩ := ret_sl ho30; (have HS30 := Aside0.mk hs30); (have HOX := Aside0.mk ho30); clear ho30 hs30; (have HB16 := Aside0.mk (below_step (show Below w19.heap.size w19 _ from auB) hb)); clear hb)
          go_wp2_with (go_at_call 20; (with_reducible refine (spec_SameRow.calls kr20x _ _ X _ _ X true _ auC auL auC auL H20x.out).mono ?_); rintro e w20b ⟨rfl, hb⟩; replace hb := drawn_below hb; (have HB20b := Aside0.mk (below_step (show Below w16.heap.size w16 _ from auB) hb)); clear hb)
          have HO20 := Aside0.mk (Kd.R_below (Kd.R_below (Kd.R_below HO.out HB19.out) HB16.out) HB20b.out)
          have hsz : w20e.heap.size ≤ w19.heap.size := by have := HBm.out.size; have := HB19.out.size; omega
          have HDX := Aside0.mk (Dy.below (Dy.own (wL := w20e) (W := w19) HOX.out hsz) HB20b.out)
          have HBn := Aside0.mk (show Below w20e.heap.size w20e w20b from auE)
          clear HO HOX hsz HDy H19 H16 H20x
          go_loopw [32, 33] (fun v32 v33 w' => ∃ i : Nat, i ≤ X.length ∧ v33 = .int .i64 i ∧ v32 = .bool ((X.take i).all fun x => x == 0) ∧ Aside0 (Below w20b.heap.size w20b w')) (fun _ v33 _ => X.length - (intOf v33).toNat)
          case atStart => exact ⟨0, Nat.zero_le _, rfl, rfl, ⟨auE⟩⟩
          case round =>
            obtain ⟨i, hi, rfl, rfl, HBi⟩ := hrel
            have hxb : X.length ≤ 7 := by have := HXL.out; have := HNB.out; omega
            by_cases hlti : i < X.length
            case pos =>
              obtain ⟨ad30, rfl, hcell⟩ := at_nat (show Kd.C (Kd.int .u8) wr A30 X.length X from auC) i hlti
              have hfl := all_take hlti
              have qi1 := eq_true (show (i : Int) < (X.length : Int) by omega)
              cases hf : (X.take i).all (fun x => x == 0) with
              | true =>
                rw [hf] at hfl
                clear hf
                go_wp2
                go_roundw
                case rel => exact ⟨i + 1, by omega, by go_num, by rw [hfl]; simp, ⟨auE⟩⟩
                case measure => simp [intOf]; omega
              | false =>
                rw [hf] at hfl
                clear hf
                go_wp2
                go_roundw
                case rel => exact ⟨i + 1, by omega, by go_num, by rw [hfl]; simp, ⟨auE⟩⟩
                case measure => simp [intOf]; omega
            case neg =>
              have hie : i = X.length := by omega
              subst hie
              rw [List.take_length]
              have HOi := Aside0.mk (Kd.R_below HO20.out HBi.out)
              have HDi := Aside0.mk (Dy.below HDX.out HBi.out)
              have HBx := Aside0.mk (below_step HBn.out HBi.out)
              cases hf : X.all (fun x => x == 0) with
              | true =>
                have HF := Aside0.mk hf
                clear hf
                go_wp2_with (at_builtin; refine Kd.R_append (Kd.int .i64) (w0 := w20e) w20e.heap.size rfl (.tmp 230) (.tmp 232) 47 2 (.int .i64 0) 8 rfl Try.underlying47 info2 rfl (by decide) (by omega) _ acc (n : Int) _ (fun _ => True) (fun _ => False) rfl rfl rfl (fun _ hk => hk.elim) (fun _ _ => trivial) HOi.out HBx.out HBx.out.size (by have := HAL.out; omega) ?_; intro v38 w38 ho38 hb38 hg38 _; (have HO38 := Aside0.mk ho38); (have HB38 := Aside0.mk hb38); (have HD38 := Aside0.mk (Dy.over HDi.out HOi.out (by decide) hg38)); clear ho38 hb38 hg38)
                go_roundw
                case rel => exact ⟨n + 1, _, _, X, acc ++ [(n : Int)], by have := HNB.out; omega, rfl, by go_num, HXL.out, ⟨by rw [← HXE.out]; congr 1; omega⟩, ⟨by rw [outList_snoc, show (0 : Int) + n = n by omega, HXE.out, notUpright_all, HF.out, HA.out]; simp⟩, HD38, HO38, HB38⟩
                case measure => have := HNB.out; simp [intOf]; omega
              | false =>
                have HF := Aside0.mk hf
                clear hf
                go_wp2
                go_roundw
                case rel => exact ⟨n + 1, _, _, X, acc, by have := HNB.out; omega, rfl, by go_num, HXL.out, ⟨by rw [← HXE.out]; congr 1; omega⟩, ⟨by rw [outList_snoc, show (0 : Int) + n = n by omega, HXE.out, notUpright_all, HF.out, HA.out]; simp⟩, HDi, HOi, HBx⟩
                case measure => have := HNB.out; simp [intOf]; omega
        case neg =>
          obtain ⟨r1, r7, hr, w3, hw, p1, y0, y1, t0, t1, ok, hV, hVl, hU, hM, hMl⟩ := HP.out
          have hne : (n : Int) = last + 1 := by omega
          have hdV : day = V := by rw [HD.out, hne, show last + 1 - 1 = last by omega, ← hV]; rfl
          have hnn : n = (last + 1).toNat := by omega
          have haU : acc = U := by rw [HA.out, hnn, hU]
          have HS25 : Aside0 (Sl (Kd.int .u8) wr A25 c25 V) := ⟨hdV ▸ HDy.out.sl HBm.out⟩
          obtain ⟨A26, c26, rfl, hs26⟩ := ret_sl HO.out
          have HS26 : Aside0 (Sl (Kd.int .i64) wr A26 c26 U) := ⟨haU ▸ hs26⟩
          have qn := eq_false (show ¬ (n : Int) ≤ last by omega)
          have hb1 : r.length ≤ 7 := r7
          rw [hdV, haU]
          clear HD HA HDy HO hs26 hdV haU hdl hn r1 hr w3 hw p1 y0 y1 t0 t1 ok hV hVl hU hM hMl hnn hne
          go_wp2_with (go_at_call 25; (with_reducible refine (impl_UprightDays.calls kr25 _ _ r _ _ ws 0 last U 0 _ auC auL auC auL H25.out).mono ?_); rintro e w25 ⟨v34, rfl, ho34, hb⟩; obtain ⟨A34, c34, rfl, hs34⟩ := ret_sl ho34; (have HS34 := Aside0.mk hs34); clear ho34 hs34; (have HB25 := Aside0.mk (below_step (show Below wr.heap.size wr _ from auB) hb)); clear hb)
          go_wp2_with (go_at_call 55; (with_reducible refine (impl_NeverTurned.calls kr55 _ _ _ ws M 0 _ auC auL H55.out).mono ?_); rintro e w55 ⟨v36, rfl, ho36, hb⟩; obtain ⟨A36, c36, rfl, hs36⟩ := ret_sl ho36; (have HS36 := Aside0.mk hs36); clear ho36 hs36; (have HB55 := Aside0.mk (below_step (show Below w25.heap.size w25 _ from auB) hb)); clear hb)
          go_wp2_with (go_at_call 56; (with_reducible refine (spec_NeverTurned.calls kr56 _ _ _ ws M 0 _ auC auL H56.out).mono ?_); rintro e w56 ⟨v38, rfl, ho38, hb⟩; obtain ⟨A38, c38, rfl, hs38⟩ := ret_sl ho38; (have HS38 := Aside0.mk hs38); clear ho38 hs38; (have HB56 := Aside0.mk (below_step (show Below w55.heap.size w55 _ from auB) hb)); clear hb)
          go_wp2_with (go_at_call 20; (with_reducible refine (spec_SameRow.calls kr20v A25 c25 V A21 c21 V true _ auC auL auC auL H20v.out).mono ?_); rintro e w20f ⟨rfl, hb⟩; replace hb := drawn_below hb; (have HB20f := Aside0.mk (below_step (show Below w56.heap.size w56 _ from auB) hb)); clear hb)
          go_wp2_with (go_at_call 57; (with_reducible refine (spec_SameNumbers.calls kr57u A34 c34 U A26 c26 U true _ auC auL auC auL H57u.out).mono ?_); rintro e w57a ⟨rfl, hb⟩; replace hb := drawn_below hb; (have HB57a := Aside0.mk (below_step (show Below w20f.heap.size w20f _ from auB) hb)); clear hb)
          go_wp2_with (go_at_call 57; (with_reducible refine (spec_SameNumbers.calls kr57m A36 c36 M A38 c38 M true _ auC auL auC auL H57m.out).mono ?_); rintro e w57b ⟨rfl, hb⟩; replace hb := drawn_below hb; (have HB57b := Aside0.mk (below_step (show Below w57a.heap.size w57a _ from auB) hb)); clear hb)
          clear H25 H55 H56 H57u H57m H20v H20r qn hlt
          go_loopw [40] (fun v40 w' => ∃ i : Nat, i ≤ r.length ∧ v40 = .int .i64 i ∧ Aside0 (Below w57b.heap.size w57b w')) (fun v40 _ => r.length - (intOf v40).toNat)
          case atStart => exact ⟨0, Nat.zero_le _, rfl, ⟨auE⟩⟩
          case round =>
            obtain ⟨i, hi, rfl, HBo⟩ := hrel
            obtain ⟨wo, rfl⟩ : ∃ x : World, x = wr := ⟨_, rfl⟩
            by_cases hlt : i < r.length
            case neg =>
              have hie : i = r.length := by omega
              subst hie
              go_wp2
              go_ret
              exact ⟨rfl, auE⟩
            have HLI := Aside0.mk hlt
            have qi := eq_true (show (i : Int) < (r.length : Int) by omega)
            clear hlt
            go_wp2
            go_loopw [41, 42] (fun v41 v42 w' => ∃ m : Nat, m ≤ ws.length ∧ v42 = .int .i64 m ∧ v41 = .int .i64 (timesAt (r.length : Int) i (ws.take m)) ∧ Aside0 (Below wo.heap.size wo w')) (fun _ v42 _ => ws.length - (intOf v42).toNat)
            case atStart => exact ⟨0, Nat.zero_le _, rfl, rfl, ⟨auE⟩⟩
            case round =>
              obtain ⟨m, hm, rfl, rfl, HBq⟩ := hrel
              obtain ⟨r1, r7, hr, w3, hw, p1, y0, y1, t0, t1, ok, hV, hVl, hU, hM, hMl⟩ := HP.out
              by_cases hlm : m < ws.length
              case pos =>
                have hmem : rd_T38 ws (m : Int) ∈ ws := by simp [rd_T38, hlm]
                have hx := hw _ hmem
                have e58 := implVisitsOf_ok (b := (r.length : Int)) (by omega) (by omega) hx
                have htt := timesAt_take (b := (r.length : Int)) i hlm
                have hvl := vis_len (r.length : Int) (rd_T38 ws (m : Int))
                have hvb := vis_rd hx (i : Int)
                have htb := timesAt_bd (b := (r.length : Int)) i (ws.take m) (fun x hx => hw x (List.mem_of_mem_take hx))
                have hl3 : (ws.take m).length ≤ 3 := by simp; omega
                obtain ⟨L, hL⟩ : ∃ L, vis (r.length : Int) (rd_T38 ws (m : Int)) = L := ⟨_, rfl⟩
                rw [hL] at e58 htt hvl hvb
                have ew : wrap64 (timesAt (r.length : Int) i (ws.take m) + rd L (i : Int)) = timesAt (r.length : Int) i (ws.take (m + 1)) := by rw [htt, w64 (by omega) (by omega)]
                have hLl : L.length = r.length := by omega
                have hne : ((L.length : Int) != (r.length : Int)) = false := by rw [hLl]; simp
                have HLL := Aside0.mk hLl
                have HLM := Aside0.mk hlm
                obtain ⟨x, hxe⟩ : ∃ x, rd_T38 ws (m : Int) = x := ⟨_, rfl⟩
                rw [hxe] at e58
                have qm := eq_true (show (m : Int) < (ws.length : Int) by omega)
                have hm3 : (m : Int) ≤ 3 := by omega
                obtain ⟨ad7, rfl, h0, h1, h2, h3, h4, h5⟩ := at_T38 (show Kd.C k38 wr A7 ws.length ws from auC) (m : Int) (by omega) (by omega)
                simp only [Int.toNat_natCast, hxe] at h0 h1 h2 h3 h4 h5
                obtain ⟨kr58, H58⟩ := Ev.rounds (e58)
                replace H58 := Aside0.mk H58
                clear r1 r7 hr w3 hw p1 y0 y1 t0 t1 ok hV hVl hU hM hMl hmem hx e58 htt hvl hvb htb hl3 hL hLl hlm hxe
                go_wp2_with (go_at_call 58; (with_reducible refine (impl_VisitsOf.calls kr58 _ _ _ _ _ _ _ L 0 _ H58.out).mono ?_); rintro e w58 ⟨v43, rfl, ho43, hb⟩; obtain ⟨A43, c43, rfl, hs43⟩ := ret_sl ho43; (have HS43 := Aside0.mk hs43); clear ho43 hs43; (have HB58 := Aside0.mk (below_step (show Below wr.heap.size wr _ from auB) hb)); clear hb; clear h0 h1 h2 h3 h4 h5; (have hcl := at_nat (show Kd.C (Kd.int .i64) w58 A43 L.length L from auC) i (by have := HLL.out; have := HLI.out; omega)); obtain ⟨ad43, rfl, hc43⟩ := hcl; (have ql := eq_true (show (i : Int) < (L.length : Int) by have := HLL.out; have := HLI.out; omega)))
                go_roundw
                case rel => exact ⟨m + 1, by have := HLM.out; omega, by go_num, by rw [ew], ⟨auE⟩⟩
                case measure => have := HLM.out; simp [intOf]; omega
              case neg =>
                have hme : m = ws.length := by omega
                subst hme
                rw [List.take_length]
                have hli := HLI.out
                have hbd := timesAt_bd (b := (r.length : Int)) i ws hw
                have hmM : i < M.length + r.length := by omega
                have e59 := has_ev M hMl (i : Int)
                rw [← hM, never_has (b := (r.length : Int)) (by omega), hM] at e59
                obtain ⟨adV, rfl, hcV⟩ := at_nat (show Kd.C (Kd.int .u8) wr A21 V.length V from auC) i (by omega)
                obtain ⟨adr, rfl, hcr⟩ := at_nat (show Kd.C (Kd.int .u8) wr A5 r.length r from auC) i hli
                have qV := eq_true (show (i : Int) < (V.length : Int) by omega)
                have hi7 : (i : Int) ≤ 7 := by omega
                obtain ⟨tt, htt⟩ : ∃ t, timesAt (r.length : Int) i ws = t := ⟨_, rfl⟩
                have hds : tt = 0 → rd V (i : Int) = rd r (i : Int) := fun h => by rw [← hV]; exact due_same ok hli last (htt.trans h)
                rw [htt] at e59 ⊢
                obtain ⟨kr59, H59⟩ := Ev.rounds e59
                have HLI2 := Aside0.mk hli
                clear r1 r7 hr w3 hw p1 y0 y1 t0 t1 ok hV hVl hU hM hMl hbd hmM e59 htt hli hlm hm
                by_cases h0 : tt = 0
                · rw [h0] at H59
                  rw [show ((0 : Int) == 0) = true from rfl] at H59
                  replace H59 := Aside0.mk H59
                  rw [hds h0] at hcV
                  subst h0
                  clear hds
                  go_wp2_with fail
                  go_quiet (first | (go_at_call 59; (with_reducible refine (spec_HasNumber.calls kr59 _ _ M _ true _ auC auL H59.out).mono ?_); rintro e w' ⟨rfl, ⟨nd, rfl⟩⟩; (try first | exact ⟨rfl, _, World.drewN_drewN _ _ _⟩ | exact ⟨rfl, _, Eq.trans (World.drewN_drewN _ _ _) (congrArg (World.drewN _) (Nat.add_assoc _ _ _))⟩)))
                  go_wp2
                  go_roundw
                  case rel => exact ⟨i + 1, by have := HLI2.out; omega, by go_num, ⟨auE⟩⟩
                  case measure => have := HLI2.out; simp [intOf]; omega
                · have h0b : (tt == 0) = false := beq_eq_false_iff_ne.mpr h0
                  rw [h0b] at H59
                  replace H59 := Aside0.mk H59
                  clear hds hcV hcr
                  go_wp2_with fail
                  go_quiet (first | (go_at_call 59; (with_reducible refine (spec_HasNumber.calls kr59 _ _ M _ false _ auC auL H59.out).mono ?_); rintro e w' ⟨rfl, ⟨nd, rfl⟩⟩; (try first | exact ⟨rfl, _, World.drewN_drewN _ _ _⟩ | exact ⟨rfl, _, Eq.trans (World.drewN_drewN _ _ _) (congrArg (World.drewN _) (Nat.add_assoc _ _ _))⟩)))
                  go_wp2
                  go_roundw
                  case rel => exact ⟨i + 1, by have := HLI2.out; omega, by go_num, ⟨auE⟩⟩
                  case measure => have := HLI2.out; simp [intOf]; omega
end FnTurned
end Go.Proofs.Ytmheflciiodhdaa.P
/- The row of the law FnTurned, out of its contract and its plain statement. Written by wip/tools/mkrow.py of this repo. -/
namespace Go.Proofs.Ytmheflciiodhdaa.fnTurned
open Go.ChangeShapes Go.WideShapes Go.ChangeAt Go.RowKit
open Go.ChangeMaps (open_string shut_string)
open Go.Proofs.Ytmheflciiodhdaa.P Go.Proofs.YtmheflciiodhdaaW.PrintWords Go.Proofs.YtmheflciiodhdaaW.PrintLast Go.Proofs.YtmheflciiodhdaaW.PrintMore
set_option linter.unusedVariables false
theorem own : ownKnob Try.prog.godebug = none := by kernel_rfl
theorem laidOut : laidOutB Try.prog = true := by kernel_rfl
set_option maxRecDepth 100000 in
theorem lifted (os : Os) (started : os.Started) (H : Type) (enc : TypeId × Value → H) :
    ReturnsInHanded {} Try.checked os 7 .any (Rows.fnTurnedSpec.pre6 enc Try.prog Try.f7 Rows.fnTurnedRow.domain false) (Rows.fnTurnedSpec.post enc Try.prog Try.f7 false true false false) := by
  refine returnsInHanded_of_change_sized (C := Try.checked) own started (by kernel_rfl) Try.func7
    (ChangeSpec.witness6 (enc := enc) (C := Try.checked) false ⟨#[], #[.slice none 0 0, .slice none 0 0], []⟩ 8 (by kernel_rfl) (by kernel_rfl) (by kernel_rfl) (by kernel_rfl)) ?_
  intro W base args ds gs before hval0 hW hcnd hsz0 _
  have hsz : (DataW.weightsEach Try.prog (Try.f7.params.toList ++ Rows.fnTurnedSpec.plain.varTypes Try.prog) (ds ++ gs)).all (· ≤ reachBytes) = true := hsz0
  have hval : ∀ (j : Nat) t v, Try.f7.params[j]? = some t → args[j]? = some v → Value.okWide Try.prog W .any base t v := hval0
  have hW' := hW
  obtain ⟨p, q, hA0, hV, rfl, hfz, hnd⟩ := hW
  have hA : DataW.TrodAll enc Try.prog W 0 (fun _ => true) true Try.f7.params.toList args.toList ds p := hA0
  rw [Try.params7] at hA hval hsz
  obtain ⟨v0, vs0, d0, ds0, p0, q0, hargs, rfl, rfl, h0, r0⟩ := trodAll_cons hA
  obtain ⟨v1, vs1, d1, ds1, p1, q1, rfl, rfl, rfl, h1, r1⟩ := trodAll_cons r0
  obtain ⟨rfl, rfl, rfl⟩ := trodAll_nil r1
  obtain rfl : args = #[v0, v1] := by cases args; simp_all
  obtain ⟨rfl, rfl⟩ := trodVars_none hV
  obtain ⟨a0, len0, cap0, rfl⟩ := okWide_slice Try.underlying22 (hval 0 22 v0 rfl rfl)
  have k0 := h0
  have lt0 : ∀ x ∈ p0, x.block < W.heap.size := by obtain ⟨m, hm⟩ := k0; exact DataW.trod_lt m _ _ _ hm
  obtain ⟨z0, rfl, c0, b0, w0, g0⟩ := Opens.arg (Opens.slice Try.underlying22 (by kernel_rfl) (Opens.int Try.underlying5)) h0
  obtain ⟨a1, len1, cap1, rfl⟩ := okWide_slice Try.underlying22 (hval 1 22 v1 rfl rfl)
  have k1 := h1
  have lt1 : ∀ x ∈ p1, x.block < W.heap.size := by obtain ⟨m, hm⟩ := k1; exact DataW.trod_lt m _ _ _ hm
  obtain ⟨z1, rfl, c1, b1, w1, g1⟩ := Opens.arg (Opens.slice Try.underlying22 (by kernel_rfl) (Opens.int Try.underlying5)) h1
  clear hA0 hval0 hsz0 hsz
  refine (FnTurned.walk a0 cap0 z0 a1 cap1 z1 W w0 c0 w1 c1 g0 b0 g1 b1).mono fun e W' ⟨he, bel⟩ => ?_
  subst he
  exact ⟨_, rfl, _, _, _, [], _, [], hW', trodAll_mk1 (shut_bool Try.underlying4 _), (trodAll_cons_mk (Below.trod laidOut (by kernel_rfl) (of_decide_eq_true (by kernel_rfl)) k0 bel lt0) (trodAll_cons_mk (Below.trod laidOut (by kernel_rfl) (of_decide_eq_true (by kernel_rfl)) k1 bel lt1) trodAll_mk0)), rfl, bel.frame _, fun h => by cases h⟩
theorem over : Rows.fnTurnedRow.holds Try.pinned (OpenSpec.ofChange Rows.fnTurnedSpec) :=
  OpenClaim.holds_of_wide 7 Try.f7 rfl rfl rfl rfl rfl rfl rfl ⟨rfl, rfl, rfl, rfl, rfl⟩ rfl rfl rfl rfl rfl (by kernel_rfl) Try.func7 (by kernel_rfl)
    (of_decide_eq_true (by kernel_rfl)) (by unfold Func.isWrapper; first | (rw [if_pos (by decide +kernel)]; kernel_rfl) | (rw [if_neg (by decide +kernel)]; exact ⟨rfl, rfl⟩))
    (fun os started H enc _ => lifted os started H enc)
theorem proved : Rows.FnTurnedSaid := over
end Go.Proofs.Ytmheflciiodhdaa.fnTurned
namespace Go.Proofs.Ytmheflciiodhdaa
/-- The row, under a short name, for the claim. -/
theorem fnTurned_holds : Rows.FnTurnedSaid := fnTurned.proved
end Go.Proofs.Ytmheflciiodhdaa
