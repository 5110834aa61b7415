/- For every input the law FnMissed returns true: a walk that has been missed is among those that are told, and each one of these explains what has been seen.
   Conditions: none beyond the given statement's own. -/
import Derived.Test.YtmheflciiodhdaaKFnMissedw22
import Derived.Test.YtmheflciiodhdaaKFnMissedx3
import Derived.Test.YtmheflciiodhdaaKFnMissedx2
import Derived.WalkSmall
import Derived.Test.YtmheflciiodhdaaKFnMissedx1
import Derived.Test.YtmheflciiodhdaaRows
import Derived.WalkKit
import Derived.ProofKit
import Derived.OpenShut
import Derived.ShutString
import Derived.ChangeOld
import Derived.Below
import Derived.SizedLaws
-- Written by wip/tools/mkprint.py of this repo, over the kit's print, out of the translation; Lean checks it.
namespace Go.Proofs.Ytmheflciiodhdaa.P
open Go.RowKit Go.Proofs.YtmheflciiodhdaaW.PrintWords Go.Proofs.YtmheflciiodhdaaW.PrintLast Go.Proofs.YtmheflciiodhdaaW.PrintMore
attribute [local go_sem] max2_int min2_int max_two min_two max_three min_three max_four min_four   -- for this text's walks alone
set_option linter.unusedVariables false
set_option linter.unusedSimpArgs false
/-! ### spec_P6Walkers: function 10 -/
def spec_P6Walkers.l0 : Nat → Int → List (S38) → Int → List Int → Int → Int → Option ((List (S38)))
  | 0, _, _, _, _, _, _ => none
  | k + 1, x1, x6, x7, x164000, x164001, x164002 => if x7 > 0 then ((spec_l05One.f x164000 x164001 x164002 x1).bind fun bt170 => (if x6.length < 11728124029610 then (spec_P6Walkers.l0 k x1 (x6 ++ [(⟨bt170.1, bt170.2.1, bt170.2.2.1, bt170.2.2.2.1, bt170.2.2.2.2.1, bt170.2.2.2.2.2.1⟩ : S38)]) (wrap64 (x7 - 1)) x164000 bt170.2.2.2.2.2.2.1 bt170.2.2.2.2.2.2.2) else (none))) else (some x6)
def spec_P6Walkers.f (k : Nat) (l0 : List Int) (a1 : Int) : Option ((List (S38))) := (spec_l00From.f l0).bind fun bt160 => ((spec_l00Src_pick.f bt160.1 bt160.2.1 bt160.2.2 4).bind fun bt167 => (spec_P6Walkers.l0 k a1 (([] : List (S38))) bt167.1 bt160.1 bt167.2.1 bt167.2.2))
theorem spec_P6Walkers.mono_l : ∀ k, (∀ y0 y1 y2 y3 y4 y5, LeO (spec_P6Walkers.l0 k y0 y1 y2 y3 y4 y5) (spec_P6Walkers.l0 (k + 1) y0 y1 y2 y3 y4 y5))
  | 0 => fun _ _ _ _ _ _ r h => by simp [spec_P6Walkers.l0] at h
  | k + 1 => by
    have ih0 := spec_P6Walkers.mono_l k
    · intro y0 y1 y2 y3 y4 y5
      unfold spec_P6Walkers.l0
      repeat' first
      | (with_reducible exact ih0 _ _ _ _ _ _)
      | (with_reducible exact LeO.refl _)
      | (with_reducible exact LeO.none _)
      | (with_reducible refine LeO.ite ?_ ?_)
      | (with_reducible refine LeO.bind ?_ (fun _ => ?_))
      | exact ih0 _ _ _ _ _ _
      | exact LeO.none _
      | refine LeO.ite ?_ ?_
      | refine LeO.bind ?_ (fun _ => ?_)
theorem spec_P6Walkers.mono : ∀ a0 a1 k, LeO (spec_P6Walkers.f k a0 a1) (spec_P6Walkers.f (k + 1) a0 a1) := by
  intro a0 a1 k
  have ih0 := spec_P6Walkers.mono_l k
  unfold spec_P6Walkers.f
  repeat' first
      | (with_reducible exact ih0 _ _ _ _ _ _)
      | (with_reducible exact LeO.refl _)
      | (with_reducible exact LeO.none _)
      | (with_reducible refine LeO.ite ?_ ?_)
      | (with_reducible refine LeO.bind ?_ (fun _ => ?_))
      | exact ih0 _ _ _ _ _ _
      | exact LeO.none _
      | refine LeO.ite ?_ ?_
      | refine LeO.bind ?_ (fun _ => ?_)
set_option maxHeartbeats 8000000 in
set_option maxRecDepth 100000 in
theorem spec_P6Walkers.calls (k : Nat) (A0 : Option Addr) (c0 : Nat) (l0 : List Int) (a1 : Int) (r : List (S38)) (w : World) (hr0 : Kd.C (Kd.int .u8) w A0 l0.length l0) (hc0 : l0.length ≤ c0) (h : spec_P6Walkers.f k l0 a1 = some r) :
    Calls Try.prog 10 #[.slice A0 l0.length c0, .int .i64 a1] w fun e w' => ∃ v0_ : Value, e = .returned (v0_) ∧ Kd.R k38 38 w' w.heap.size (fun _ => True) v0_ r ∧ Below w.heap.size w w' := by
  have HR0 := Aside0.mk hr0
  have HC0 := Aside0.mk hc0
  clear hr0 hc0
  have HB := Aside0.mk (Below.refl w.heap.size w)
  have H : ((spec_l00From.f l0).bind fun bt160 => ((spec_l00Src_pick.f bt160.1 bt160.2.1 bt160.2.2 4).bind fun bt167 => (spec_P6Walkers.l0 k a1 (([] : List (S38))) bt167.1 bt160.1 bt167.2.1 bt167.2.2))) = some r := h
  clear h
  replace H := Option.bind_eq_some_iff.mp H
  obtain ⟨⟨t160, t161, t162⟩, A30, H⟩ := H
  replace H : ((spec_l00Src_pick.f t160 t161 t162 4).bind fun bt167 => (spec_P6Walkers.l0 k a1 (([] : List (S38))) bt167.1 t160 bt167.2.1 bt167.2.2)) = some r := H
  have A3 := Aside0.mk A30
  clear A30
  obtain ⟨y164, hy164⟩ : ∃ y_ : List (S38), y_ = (([] : List (S38))) := ⟨_, rfl⟩
  replace H : ((spec_l00Src_pick.f t160 t161 t162 4).bind fun bt167 => (spec_P6Walkers.l0 k a1 y164 bt167.1 t160 bt167.2.1 bt167.2.2)) = some r := by first | (rw [hy164]; with_reducible exact H) | (have H2_ := (Option.bind_some _ _).symm.trans H; rw [hy164]; with_reducible exact H2_) | (have H2_ := (Option.bind_some _ _).symm.trans H; with_reducible exact H2_) | with_reducible exact H | (rw [hy164]; exact H) | exact H
  have Ny164 := Aside0.mk hy164
  clear hy164
  replace H := Option.bind_eq_some_iff.mp H
  obtain ⟨⟨t167, t168, t169⟩, A40, H⟩ := H
  replace H : (spec_P6Walkers.l0 k a1 y164 t167 t160 t168 t169) = some r := H
  have A4 := Aside0.mk A40
  clear A40
  have H' := Aside0.mk H
  clear H
  go_enter Try.func10, Try.ntmps10
  go_wp2_with (first | ((with_reducible refine gate_callee (f := 61) rfl ?_); refine goesL_ (some 9) rfl rfl Try.func61 (by kernel_rfl) rfl #[.slice A0 l0.length c0] rfl (by (try simp only [List.map_toArray, List.map_cons, List.map_nil]); first | done | rfl | (simp only [List.length_drop, List.length_take]; rfl)) ?_; (with_reducible refine (spec_l00From.calls _ _ l0 t160 t161 t162 w _ ?side1 ?side2 ?side3 A3.out).mono ?_); (case side1 => repeat (first | (with_reducible first | exact HB.out | apply below_alloc | apply pw_below_drewN | apply below_drew1) | exact HB.out)); (case side2 => exact HR0.out); (case side3 => exact HC0.out); rintro e w5 ⟨g163, rfl, hi, hb, hb2⟩; refine ⟨_, rfl, ?_⟩; have n0_ := Aside0.mk (hb); have n1_ := Aside0.mk (hi); clear HB; have HB := n0_; have HI163 := n1_; clear n0_ n1_; (try clear hb); (try clear hb2); (try clear hk); (try clear hi)) | ((with_reducible refine gate_dst (N := 10) rfl ?_); refine Kd.R_lit k38 _ 38 ?hg (N := 10) ?hd (xs := ([] : List (S38))) (inner := []) (ok := fun _ => True) (okp := fun _ => True) ?hr ?hp (fun _ hk => hk) trivial (Below.refl _ _) (Nat.le_refl _) (by simp) ?_; (case hd => rfl); (case hg => rfl); (case hr => first | (go_simp; done) | (go_simp; rfl)); (case hp => exact (Reps.none _ _)); intro v165 w6 ho7 hb hg_ hnew_; clear hg_ hnew_; (first | rw [← Ny164.out] at ho7 | (simp only [Int.reduceToNat] at ho7; rw [← Ny164.out] at ho7)); have n0_ := Aside0.mk (Kd.R_lower ho7 (below_size (by repeat (first | (with_reducible first | exact HB.out | apply below_alloc | apply pw_below_drewN | apply below_drew1 | refine below_set ?_ (IsS111.ge HI163.out)) | exact HB.out)))); have n1_ := Aside0.mk (IsS111.below (by repeat (first | (with_reducible first | exact HI163.out | apply IsS111.alloc | apply IsS111.drewN | apply IsS111.drew | apply IsS111.set_1 | apply IsS111.set_2) | exact HI163.out)) hb); have n2_ := Aside0.mk (below_step (by repeat (first | (with_reducible first | exact HB.out | apply below_alloc | apply pw_below_drewN | apply below_drew1 | refine below_set ?_ (IsS111.ge HI163.out)) | exact HB.out)) hb); clear HI163; clear HB; have HO166 := n0_; have HI163 := n1_; have HB := n2_; clear n0_ n1_ n2_; clear hb ho7) | ((with_reducible refine gate_callee (f := 62) rfl ?_); refine goesL_ (some 12) rfl rfl Try.func62 (by kernel_rfl) rfl #[.pointer (some ⟨g163, 0, none⟩), .int .i64 4] rfl (by (try simp only [List.map_toArray, List.map_cons, List.map_nil]); first | done | rfl | (simp only [List.length_drop, List.length_take]; rfl)) ?_; (with_reducible refine (spec_l00Src_pick.calls g163 t160 t161 t162 4 t167 t168 t169 w _ ?side1 ?side2 A4.out).mono ?_); (case side1 => repeat (first | (with_reducible first | exact HI163.out | apply IsS111.alloc | apply IsS111.drewN | apply IsS111.drew | apply IsS111.set_1 | apply IsS111.set_2) | exact HI163.out)); (case side2 => repeat (first | (with_reducible first | exact HB.out | apply below_alloc | apply pw_below_drewN | apply below_drew1 | refine below_set ?_ (IsS111.ge HI163.out)) | exact HB.out)); rintro e w8 ⟨rfl, hi, hb, hk⟩; refine ⟨_, rfl, ?_⟩; have n0_ := Aside0.mk (Kd.R_mono (Kd.R_keep (IsS111.apart (show IsS111 w _ g163 t160 t161 t162 from by repeat (first | (with_reducible first | exact HI163.out | apply IsS111.alloc | apply IsS111.drewN | apply IsS111.drew | apply IsS111.set_1 | apply IsS111.set_2) | exact HI163.out)) (by (with_reducible repeat (first | apply Kd.R_alloc | apply Kd.R_drewN | apply Kd.R_drew)); exact HO166.out) (by decide)) hk (fun _ h => h.2)) (fun _ h => h.1)); have n1_ := Aside0.mk (hb); have n2_ := Aside0.mk (hi); clear HO166; clear HB; clear HI163; have HO166 := n0_; have HB := n1_; have HI163 := n2_; clear n0_ n1_ n2_; (try clear hb); (try clear hb2); (try clear hk); (try clear hi)))
  go_loopg [6, 7] k (fun kq v6 v7 w' => ∃ (x6_1 : List (S38)) (x7_1 : Int) (x164001_1 : Int) (x164002_1 : Int), v7 = .int .i64 x7_1 ∧ Aside0 (spec_P6Walkers.l0 kq a1 x6_1 x7_1 t160 x164001_1 x164002_1 = some r) ∧ Aside0 (kq ≤ k) ∧ Aside0 (Kd.R k38 38 w' w.heap.size (fun _ => True) v6 x6_1) ∧ Aside0 (IsS111 w w' g163 t160 x164001_1 x164002_1) ∧ Aside0 (Below w.heap.size w w'))
  case atStart => exact ⟨(y164), (t167), (t168), (t169), (by first | rfl | (simp; done) | (simp [*]; done)), H', ⟨Nat.le_refl _⟩, ⟨by (with_reducible repeat (first | apply Kd.R_alloc | apply Kd.R_drewN | apply Kd.R_drew)); exact HO166.out⟩, ⟨by repeat (first | (with_reducible first | exact HI163.out | apply IsS111.alloc | apply IsS111.drewN | apply IsS111.drew | apply IsS111.set_1 | apply IsS111.set_2) | exact HI163.out)⟩, ⟨by repeat (first | (with_reducible first | exact HB.out | apply below_alloc | apply pw_below_drewN | apply below_drew1 | refine below_set ?_ (IsS111.ge HI163.out)) | exact HB.out)⟩⟩
  case round =>
    clear H'
    try clear c1
    try clear p2
    try clear c6
    obtain ⟨x6_1, x7_1, x164001_1, x164002_1, rfl, HA, HK1, HO_6, HI163, HB⟩ := hrel
    cases gk with
    | zero => exact absurd HA.out (by simp [spec_P6Walkers.l0])
    | succ k1 =>
      have H := HA.out
      clear HA
      simp only [spec_P6Walkers.l0] at H
      by_cases c9 : x7_1 > 0
      · rw [if_pos c9] at H
        have c9b0 : decide (0 < x7_1) = true := decide_eq_true c9
        clear c9
        replace H := Option.bind_eq_some_iff.mp H
        obtain ⟨⟨t170, t171, t172, t173, t174, t175, t176, t177⟩, A100, H⟩ := H
        replace H : (if x6_1.length < 11728124029610 then (spec_P6Walkers.l0 k1 a1 (x6_1 ++ [(⟨t170, t171, t172, t173, t174, t175⟩ : S38)]) (wrap64 (x7_1 - 1)) t160 t176 t177) else (none)) = some r := H
        have A10 := Aside0.mk A100
        clear A100
        by_cases c11 : x6_1.length < 11728124029610
        · rw [if_pos c11] at H
          have LMc11 := Aside0.mk c11
          clear c11
          obtain ⟨y178, hy178⟩ : ∃ y_ : List (S38), y_ = (x6_1 ++ [(⟨t170, t171, t172, t173, t174, t175⟩ : S38)]) := ⟨_, rfl⟩
          replace H : (spec_P6Walkers.l0 k1 a1 y178 (wrap64 (x7_1 - 1)) t160 t176 t177) = some r := by first | (rw [hy178]; with_reducible exact H) | (have H2_ := (Option.bind_some _ _).symm.trans H; rw [hy178]; with_reducible exact H2_) | (have H2_ := (Option.bind_some _ _).symm.trans H; with_reducible exact H2_) | with_reducible exact H | (rw [hy178]; exact H) | exact H
          have Ny178 := Aside0.mk hy178
          clear hy178
          have H' := Aside0.mk H
          clear H
          go_wp2_with (first | ((with_reducible refine gate_callee (f := 63) rfl ?_); refine goesL_ (some 20) rfl rfl Try.func63 (by kernel_rfl) rfl #[.pointer (some ⟨g163, 0, none⟩), .int .i64 a1] rfl (by (try simp only [List.map_toArray, List.map_cons, List.map_nil]); first | done | rfl | (simp only [List.length_drop, List.length_take]; rfl)) ?_; (with_reducible refine (spec_l05One.calls g163 t160 x164001_1 x164002_1 a1 t170 t171 t172 t173 t174 t175 t176 t177 w _ ?side1 ?side2 A10.out).mono ?_); (case side1 => repeat (first | (with_reducible first | exact HI163.out | apply IsS111.alloc | apply IsS111.drewN | apply IsS111.drew | apply IsS111.set_1 | apply IsS111.set_2) | exact HI163.out)); (case side2 => repeat (first | (with_reducible first | exact HB.out | apply below_alloc | apply pw_below_drewN | apply below_drew1 | refine below_set ?_ (IsS111.ge HI163.out)) | exact HB.out)); rintro e w12 ⟨rfl, hi, hb, hk⟩; refine ⟨_, rfl, ?_⟩; have n0_ := Aside0.mk (Kd.R_mono (Kd.R_keep (IsS111.apart (show IsS111 w _ g163 t160 x164001_1 x164002_1 from by repeat (first | (with_reducible first | exact HI163.out | apply IsS111.alloc | apply IsS111.drewN | apply IsS111.drew | apply IsS111.set_1 | apply IsS111.set_2) | exact HI163.out)) (by (with_reducible repeat (first | apply Kd.R_alloc | apply Kd.R_drewN | apply Kd.R_drew)); exact HO_6.out) (by decide)) hk (fun _ h => h.2)) (fun _ h => h.1)); have n1_ := Aside0.mk (hb); have n2_ := Aside0.mk (hi); clear HO_6; clear HB; clear HI163; have HO_6 := n0_; have HB := n1_; have HI163 := n2_; clear n0_ n1_ n2_; (try clear hb); (try clear hb2); (try clear hk); (try clear hi)) | ((with_reducible refine gate_builtin (b := .append) (xs := #[.tmp 17, .tmp 21]) rfl ?_); at_builtin; refine Kd.R_append k38 (w0 := w) w.heap.size rfl (.tmp 17) (.tmp 21) 26 38 (.agg #[(.int .i16 0), (.int .i16 0), (.int .i16 0), (.int .i16 0), (.int .i16 0), (.int .i8 0)]) 12 rfl Try.underlying26 info38 rfl (by decide) (by omega) u6 x6_1 (⟨t170, t171, t172, t173, t174, t175⟩ : S38) [.int .i16 t170, .int .i16 t171, .int .i16 t172, .int .i16 t173, .int .i16 t174, .int .i8 t175] (fun _ => True) (fun _ => False) rfl rfl ?aP (fun _ hk => hk.elim) ?aF ?aO ?aB ?aS ?aL ?_; (case aP => exact k38_mkM _ _ _ (⟨t170, t171, t172, t173, t174, t175⟩ : S38)); (case aB => exact (by repeat (first | (with_reducible first | exact HB.out | apply below_alloc | apply pw_below_drewN | apply below_drew1 | refine below_set ?_ (IsS111.ge HI163.out)) | exact HB.out))); (case aF => exact (fun _ _ => trivial)); (case aO => exact (by (with_reducible repeat (first | apply Kd.R_alloc | apply Kd.R_drewN | apply Kd.R_drew)); exact HO_6.out)); (case aS => exact (below_size (by repeat (first | (with_reducible first | exact HB.out | apply below_alloc | apply pw_below_drewN | apply below_drew1 | refine below_set ?_ (IsS111.ge HI163.out)) | exact HB.out)))); (case aL => have := LMc11.out; omega); intro v179 w13 ho hb hg hat; rw [← Ny178.out] at ho; have n0_ := Aside0.mk (IsS111.grown (by repeat (first | (with_reducible first | exact HI163.out | apply IsS111.alloc | apply IsS111.drewN | apply IsS111.drew | apply IsS111.set_1 | apply IsS111.set_2) | exact HI163.out)) hg (IsS111.own_ne HI163.out HO_6.out (by decide))); have n1_ := Aside0.mk (hb); have n2_ := Aside0.mk (ho); clear HI163; clear HB; clear HO_6; have HI163 := n0_; have HB := n1_; have HO180 := n2_; clear n0_ n1_ n2_; clear ho hb hg hat))
          go_roundg k1
          case measure => have := HK1.out; omega
          case rel => exact ⟨(y178), (wrap64 (x7_1 - 1)), (t176), (t177), (by first | rfl | (simp; done) | (simp [*]; done)), H', ⟨by have := HK1.out; omega⟩, ⟨by (with_reducible repeat (first | apply Kd.R_alloc | apply Kd.R_drewN | apply Kd.R_drew)); exact HO180.out⟩, ⟨by repeat (first | (with_reducible first | exact HI163.out | apply IsS111.alloc | apply IsS111.drewN | apply IsS111.drew | apply IsS111.set_1 | apply IsS111.set_2) | exact HI163.out)⟩, ⟨by repeat (first | (with_reducible first | exact HB.out | apply below_alloc | apply pw_below_drewN | apply below_drew1 | refine below_set ?_ (IsS111.ge HI163.out)) | exact HB.out)⟩⟩
        · rw [if_neg c11] at H
          exact absurd H (by simp)
      · rw [if_neg c9] at H
        have c9b0 : decide (0 < x7_1) = false := decide_eq_false c9
        clear c9
        obtain rfl := Option.some.inj H
        go_wp2
        go_ret
        exact ⟨_, by first | rfl | (simp [errW_none, errW_some] <;> rfl) | (simp [*, errW_none, errW_some] <;> rfl), by (with_reducible repeat (first | apply Kd.R_alloc | apply Kd.R_drewN | apply Kd.R_drew)); exact HO_6.out, by repeat (first | (with_reducible first | exact HB.out | apply below_alloc | apply pw_below_drewN | apply below_drew1 | refine below_set ?_ (IsS111.ge HI163.out)) | exact HB.out)⟩
end Go.Proofs.Ytmheflciiodhdaa.P
-- Written by wip/tools/mkprint.py of this repo, over the kit's print, out of the translation; Lean checks it.
namespace Go.Proofs.Ytmheflciiodhdaa.P
open Go.RowKit Go.Proofs.YtmheflciiodhdaaW.PrintWords Go.Proofs.YtmheflciiodhdaaW.PrintLast Go.Proofs.YtmheflciiodhdaaW.PrintMore
attribute [local go_sem] max2_int min2_int max_two min_two max_three min_three max_four min_four   -- for this text's walks alone
set_option linter.unusedVariables false
set_option linter.unusedSimpArgs false
/-! ### spec_P6Pick: function 11 -/
def spec_P6Pick.f (l0 : List Int) (a1 : Int) : Option (Int) := (spec_l00From.f l0).bind fun bt181 => ((spec_l00Src_pick.f bt181.1 bt181.2.1 bt181.2.2 a1).bind fun bt185 => (some bt185.1))
set_option maxHeartbeats 8000000 in
set_option maxRecDepth 100000 in
theorem spec_P6Pick.calls (A0 : Option Addr) (c0 : Nat) (l0 : List Int) (a1 : Int) (r : Int) (w : World) (hr0 : Kd.C (Kd.int .u8) w A0 l0.length l0) (hc0 : l0.length ≤ c0) (h : spec_P6Pick.f l0 a1 = some r) :
    Calls Try.prog 11 #[.slice A0 l0.length c0, .int .i64 a1] w fun e w' => e = .returned (.int .i64 r) ∧ Below w.heap.size w w' := by
  have HR0 := Aside0.mk hr0
  have HC0 := Aside0.mk hc0
  clear hr0 hc0
  have HB := Aside0.mk (Below.refl w.heap.size w)
  have H : ((spec_l00From.f l0).bind fun bt181 => ((spec_l00Src_pick.f bt181.1 bt181.2.1 bt181.2.2 a1).bind fun bt185 => (some bt185.1))) = some r := h
  clear h
  replace H := Option.bind_eq_some_iff.mp H
  obtain ⟨⟨t181, t182, t183⟩, A30, H⟩ := H
  replace H : ((spec_l00Src_pick.f t181 t182 t183 a1).bind fun bt185 => (some bt185.1)) = some r := H
  have A3 := Aside0.mk A30
  clear A30
  replace H := Option.bind_eq_some_iff.mp H
  obtain ⟨⟨t185, t186, t187⟩, A40, H⟩ := H
  replace H : (some t185) = some r := H
  have A4 := Aside0.mk A40
  clear A40
  obtain rfl := Option.some.inj H
  go_enter Try.func11, Try.ntmps11
  go_wp2_with (first | ((with_reducible refine gate_callee (f := 61) rfl ?_); refine goesL_ (some 6) rfl rfl Try.func61 (by kernel_rfl) rfl #[.slice A0 l0.length c0] rfl (by (try simp only [List.map_toArray, List.map_cons, List.map_nil]); first | done | rfl | (simp only [List.length_drop, List.length_take]; rfl)) ?_; (with_reducible refine (spec_l00From.calls _ _ l0 t181 t182 t183 w _ ?side1 ?side2 ?side3 A3.out).mono ?_); (case side1 => repeat (first | (with_reducible first | exact HB.out | apply below_alloc | apply pw_below_drewN | apply below_drew1) | exact HB.out)); (case side2 => exact HR0.out); (case side3 => exact HC0.out); rintro e w5 ⟨g184, rfl, hi, hb, hb2⟩; refine ⟨_, rfl, ?_⟩; have n0_ := Aside0.mk (hb); have n1_ := Aside0.mk (hi); clear HB; have HB := n0_; have HI184 := n1_; clear n0_ n1_; (try clear hb); (try clear hb2); (try clear hk); (try clear hi)) | ((with_reducible refine gate_callee (f := 62) rfl ?_); refine goesL_ (some 8) rfl rfl Try.func62 (by kernel_rfl) rfl #[.pointer (some ⟨g184, 0, none⟩), .int .i64 a1] rfl (by (try simp only [List.map_toArray, List.map_cons, List.map_nil]); first | done | rfl | (simp only [List.length_drop, List.length_take]; rfl)) ?_; (with_reducible refine (spec_l00Src_pick.calls g184 t181 t182 t183 a1 t185 t186 t187 w _ ?side1 ?side2 A4.out).mono ?_); (case side1 => repeat (first | (with_reducible first | exact HI184.out | apply IsS111.alloc | apply IsS111.drewN | apply IsS111.drew | apply IsS111.set_1 | apply IsS111.set_2) | exact HI184.out)); (case side2 => repeat (first | (with_reducible first | exact HB.out | apply below_alloc | apply pw_below_drewN | apply below_drew1 | refine below_set ?_ (IsS111.ge HI184.out)) | exact HB.out)); rintro e w6 ⟨rfl, hi, hb, hk⟩; refine ⟨_, rfl, ?_⟩; have n0_ := Aside0.mk (hb); have n1_ := Aside0.mk (hi); clear HB; clear HI184; have HB := n0_; have HI184 := n1_; clear n0_ n1_; (try clear hb); (try clear hb2); (try clear hk); (try clear hi)))
  go_ret
  exact ⟨by first | rfl | (simp [errW_none, errW_some] <;> rfl) | (simp [*, errW_none, errW_some] <;> rfl), by repeat (first | (with_reducible first | exact HB.out | apply below_alloc | apply pw_below_drewN | apply below_drew1 | refine below_set ?_ (IsS111.ge HI184.out)) | exact HB.out)⟩
end Go.Proofs.Ytmheflciiodhdaa.P
-- Written by wip/tools/mkprint.py of this repo, over the kit's print, out of the translation; Lean checks it.
namespace Go.Proofs.Ytmheflciiodhdaa.P
open Go.RowKit Go.Proofs.YtmheflciiodhdaaW.PrintWords Go.Proofs.YtmheflciiodhdaaW.PrintLast Go.Proofs.YtmheflciiodhdaaW.PrintMore
attribute [local go_sem] max2_int min2_int max_two min_two max_three min_three max_four min_four   -- for this text's walks alone
set_option linter.unusedVariables false
set_option linter.unusedSimpArgs false
/-! ### impl_WalksOn: function 18 -/
def impl_WalksOn.f (a0 : Int) (a1_0 : Int) (a1_1 : Int) (a1_2 : Int) (a1_3 : Int) (a1_4 : Int) (a1_5 : Int) (a2 : Int) : Option (Bool × Int) := (impl_ValidWalkers.f a0 (([(⟨a1_0, a1_1, a1_2, a1_3, a1_4, a1_5⟩ : S38)] : List (S38)))).bind fun t284 => ((impl_isDay.f (([a2] : List Int))).bind fun t288 => ((impl_codeOf.f t284 t288).bind fun t289 => (if t289 = 0 then ((impl_Walker_comes.f a1_0 a1_1 a1_2 a1_3 a1_4 a1_5 a2).bind fun t290 => (some (t290, 0))) else (some (false, t289)))))
set_option maxHeartbeats 8000000 in
set_option maxRecDepth 100000 in
theorem impl_WalksOn.calls (a0 : Int) (a1_0 : Int) (a1_1 : Int) (a1_2 : Int) (a1_3 : Int) (a1_4 : Int) (a1_5 : Int) (a2 : Int) (r1 : Bool) (r2 : Int) (w : World) (h : impl_WalksOn.f a0 a1_0 a1_1 a1_2 a1_3 a1_4 a1_5 a2 = some (r1, r2)) :
    Calls Try.prog 18 #[.int .i64 a0, .agg #[.int .i16 a1_0, .int .i16 a1_1, .int .i16 a1_2, .int .i16 a1_3, .int .i16 a1_4, .int .i8 a1_5], .int .i64 a2] w fun e w' => e = .returned (.tuple #[.bool r1, .int .i64 r2]) ∧ Below w.heap.size w w' := by
  have hu38 := Try.underlying38
  have HB := Aside0.mk (Below.refl w.heap.size w)
  have H : ((impl_ValidWalkers.f a0 (([(⟨a1_0, a1_1, a1_2, a1_3, a1_4, a1_5⟩ : S38)] : List (S38)))).bind fun t284 => ((impl_isDay.f (([a2] : List Int))).bind fun t288 => ((impl_codeOf.f t284 t288).bind fun t289 => (if t289 = 0 then ((impl_Walker_comes.f a1_0 a1_1 a1_2 a1_3 a1_4 a1_5 a2).bind fun t290 => (some (t290, 0))) else (some (false, t289)))))) = some (r1, r2) := h
  clear h
  obtain ⟨y281, hy281⟩ : ∃ y_ : List (S38), y_ = (([(⟨a1_0, a1_1, a1_2, a1_3, a1_4, a1_5⟩ : S38)] : List (S38))) := ⟨_, rfl⟩
  replace H : ((impl_ValidWalkers.f a0 y281).bind fun t284 => ((impl_isDay.f (([a2] : List Int))).bind fun t288 => ((impl_codeOf.f t284 t288).bind fun t289 => (if t289 = 0 then ((impl_Walker_comes.f a1_0 a1_1 a1_2 a1_3 a1_4 a1_5 a2).bind fun t290 => (some (t290, 0))) else (some (false, t289)))))) = some (r1, r2) := by first | (rw [hy281]; with_reducible exact H) | (have H2_ := (Option.bind_some _ _).symm.trans H; rw [hy281]; with_reducible exact H2_) | (have H2_ := (Option.bind_some _ _).symm.trans H; with_reducible exact H2_) | with_reducible exact H | (rw [hy281]; exact H) | exact H
  have Ny281 := Aside0.mk hy281
  clear hy281
  replace H := Option.bind_eq_some_iff.mp H
  obtain ⟨t284, A40, H⟩ := H
  replace H : ((impl_isDay.f (([a2] : List Int))).bind fun t288 => ((impl_codeOf.f t284 t288).bind fun t289 => (if t289 = 0 then ((impl_Walker_comes.f a1_0 a1_1 a1_2 a1_3 a1_4 a1_5 a2).bind fun t290 => (some (t290, 0))) else (some (false, t289))))) = some (r1, r2) := H
  have A4 := Aside0.mk A40
  clear A40
  obtain ⟨y285, hy285⟩ : ∃ y_ : List Int, y_ = (([a2] : List Int)) := ⟨_, rfl⟩
  replace H : ((impl_isDay.f y285).bind fun t288 => ((impl_codeOf.f t284 t288).bind fun t289 => (if t289 = 0 then ((impl_Walker_comes.f a1_0 a1_1 a1_2 a1_3 a1_4 a1_5 a2).bind fun t290 => (some (t290, 0))) else (some (false, t289))))) = some (r1, r2) := by first | (rw [hy285]; with_reducible exact H) | (have H2_ := (Option.bind_some _ _).symm.trans H; rw [hy285]; with_reducible exact H2_) | (have H2_ := (Option.bind_some _ _).symm.trans H; with_reducible exact H2_) | with_reducible exact H | (rw [hy285]; exact H) | exact H
  have Ny285 := Aside0.mk hy285
  clear hy285
  replace H := Option.bind_eq_some_iff.mp H
  obtain ⟨t288, A50, H⟩ := H
  replace H : ((impl_codeOf.f t284 t288).bind fun t289 => (if t289 = 0 then ((impl_Walker_comes.f a1_0 a1_1 a1_2 a1_3 a1_4 a1_5 a2).bind fun t290 => (some (t290, 0))) else (some (false, t289)))) = some (r1, r2) := H
  have A5 := Aside0.mk A50
  clear A50
  replace H := Option.bind_eq_some_iff.mp H
  obtain ⟨t289, A60, H⟩ := H
  replace H : (if t289 = 0 then ((impl_Walker_comes.f a1_0 a1_1 a1_2 a1_3 a1_4 a1_5 a2).bind fun t290 => (some (t290, 0))) else (some (false, t289))) = some (r1, r2) := H
  have A6 := Aside0.mk A60
  clear A60
  by_cases c7 : t289 = 0
  · rw [if_pos c7] at H
    have c7b0 : (t289 == 0) = true := beq_iff_eq.mpr c7
    have c7b1 : (t289 != 0) = false := bne_eq_false_iff_eq.mpr c7
    clear c7
    replace H := Option.bind_eq_some_iff.mp H
    obtain ⟨t290, A80, H⟩ := H
    replace H : (some (t290, 0)) = some (r1, r2) := H
    have A8 := Aside0.mk A80
    clear A80
    simp only [Option.some.injEq, Prod.mk.injEq] at H
    obtain ⟨rfl, rfl⟩ := H
    go_enter Try.func18, Try.ntmps18
    go_wp2_with (first | ((with_reducible refine gate_dst (N := 4) rfl ?_); refine box_event ?hg (N := 4) ?hd (cs := #[.int .i16 a1_0, .int .i16 a1_1, .int .i16 a1_2, .int .i16 a1_3, .int .i16 a1_4, .int .i8 a1_5]) (t := 38) ?hr ?_; (case hd => rfl); (case hg => rfl); (case hr => first | (go_simp; done) | (go_simp; rfl)); intro gb280 hg w9 hbox hb; have n0_ := Aside0.mk (below_step (by repeat (first | (with_reducible first | exact HB.out | apply below_alloc | apply pw_below_drewN | apply below_drew1) | exact HB.out)) hb); have n1_ := Aside0.mk (hbox); have n2_ := Aside0.mk ((by rw [hg]; exact (below_size (by repeat (first | (with_reducible first | exact HB.out | apply below_alloc | apply pw_below_drewN | apply below_drew1) | exact HB.out))) : w.heap.size ≤ gb280)); have n3_ := Aside0.mk ((by rw [hg]; exact (below_size (by repeat (first | (with_reducible first | exact HB.out | apply below_alloc | apply pw_below_drewN | apply below_drew1) | exact HB.out))) : w.heap.size ≤ gb280)); clear HB; have HB := n0_; have BK280 := n1_; have GW280 := n2_; have GE280 := n3_; clear n0_ n1_ n2_ n3_; clear hb hbox hg; have hcz10_0 : w9.cell? ⟨gb280, 0, none⟩ = some (.int .i16 a1_0) := (blk_cell BK280.out 0).trans rfl; have hcz10_1 : w9.cell? ⟨gb280, 1, none⟩ = some (.int .i16 a1_1) := (blk_cell BK280.out 1).trans rfl; have hcz10_2 : w9.cell? ⟨gb280, 2, none⟩ = some (.int .i16 a1_2) := (blk_cell BK280.out 2).trans rfl; have hcz10_3 : w9.cell? ⟨gb280, 3, none⟩ = some (.int .i16 a1_3) := (blk_cell BK280.out 3).trans rfl; have hcz10_4 : w9.cell? ⟨gb280, 4, none⟩ = some (.int .i16 a1_4) := (blk_cell BK280.out 4).trans rfl; have hcz10_5 : w9.cell? ⟨gb280, 5, none⟩ = some (.int .i8 a1_5) := (blk_cell BK280.out 5).trans rfl; have hfz10_0 := blk_frozen BK280.out 0; have hfz10_1 := blk_frozen BK280.out 1; have hfz10_2 := blk_frozen BK280.out 2; have hfz10_3 := blk_frozen BK280.out 3; have hfz10_4 := blk_frozen BK280.out 4; have hfz10_5 := blk_frozen BK280.out 5) | ((with_reducible refine gate_dst (N := 11) rfl ?_); refine Kd.R_lit k38 _ 38 ?hg (N := 11) ?hd (xs := ([(⟨a1_0, a1_1, a1_2, a1_3, a1_4, a1_5⟩ : S38)] : List (S38))) (inner := [.int .i16 a1_0, .int .i16 a1_1, .int .i16 a1_2, .int .i16 a1_3, .int .i16 a1_4, .int .i8 a1_5]) (ok := fun _ => True) (okp := fun _ => True) ?hr ?hp (fun _ hk => hk) trivial (Below.refl _ _) (Nat.le_refl _) (by simp) ?_; (case hd => rfl); (case hg => rfl); (case hr => first | (go_simp; done) | (go_simp; rfl)); (case hp => exact (Reps.c6 (show Kd.M k38 _ _ _ (⟨a1_0, a1_1, a1_2, a1_3, a1_4, a1_5⟩ : S38) [.int .i16 a1_0, .int .i16 a1_1, .int .i16 a1_2, .int .i16 a1_3, .int .i16 a1_4, .int .i8 a1_5] from (k38_mkM _ _ _ (⟨a1_0, a1_1, a1_2, a1_3, a1_4, a1_5⟩ : S38) )) (Reps.none _ _))); intro v282 w11 ho12 hb hg_ hnew_; clear hg_ hnew_; (first | rw [← Ny281.out] at ho12 | (simp only [Int.reduceToNat] at ho12; rw [← Ny281.out] at ho12)); have n0_ := Aside0.mk (Kd.R_lower (Kd.R_newB ho12 (g := gb280) (o := .cells #[.int .i16 a1_0, .int .i16 a1_1, .int .i16 a1_2, .int .i16 a1_3, .int .i16 a1_4, .int .i8 a1_5] 38 (0, 0)) (by (with_reducible repeat (first | refine blk_drewN ?_ _ | refine blk_drew ?_ | refine blk_alloc ?_ _)); exact BK280.out)) (below_size (by repeat (first | (with_reducible first | exact HB.out | apply below_alloc | apply pw_below_drewN | apply below_drew1 | refine below_set ?_ GE280.out) | exact HB.out)))); have n1_ := Aside0.mk (blk_below (g := gb280) (o := .cells #[.int .i16 a1_0, .int .i16 a1_1, .int .i16 a1_2, .int .i16 a1_3, .int .i16 a1_4, .int .i8 a1_5] 38 (0, 0)) (by (with_reducible repeat (first | refine blk_drewN ?_ _ | refine blk_drew ?_ | refine blk_alloc ?_ _)); exact BK280.out) hb); have n2_ := Aside0.mk (below_step (by repeat (first | (with_reducible first | exact HB.out | apply below_alloc | apply pw_below_drewN | apply below_drew1 | refine below_set ?_ GE280.out) | exact HB.out)) hb); clear BK280; clear HB; have HO283 := n0_; have BK280 := n1_; have HB := n2_; clear n0_ n1_ n2_; clear hb ho12; obtain ⟨Ao13, co13, eo13⟩ := Kd.R_slice HO283.out; subst eo13) | ((with_reducible refine gate_callee (f := 51) rfl ?_); refine goesL_ (some 12) rfl rfl Try.func51 (by kernel_rfl) rfl #[.int .i64 a0, .slice Ao13 y281.length co13] rfl (by (try simp only [List.map_toArray, List.map_cons, List.map_nil]); first | done | rfl | (simp only [List.length_drop, List.length_take]; rfl)) ?_; (with_reducible refine (impl_ValidWalkers.calls a0 _ _ y281 t284 _ ?side1 ?side2 A4.out).mono ?_); (case side1 => repeat (first | exact (Kd.R_reads' HO283.out).2.2 | (with_reducible refine Kd.C_alloc ?_ _) | (with_reducible refine Kd.C_drewN ?_ _) | (with_reducible refine Kd.C_drew ?_))); (case side2 => exact (Kd.R_reads' HO283.out).2.1); rintro e w14 ⟨rfl, hb⟩; refine ⟨_, rfl, ?_⟩; have n0_ := Aside0.mk (Kd.R_below (by (with_reducible repeat (first | apply Kd.R_alloc | apply Kd.R_drewN | apply Kd.R_drew)); exact HO283.out) hb); have n1_ := Aside0.mk (blk_below (g := gb280) (o := .cells #[.int .i16 a1_0, .int .i16 a1_1, .int .i16 a1_2, .int .i16 a1_3, .int .i16 a1_4, .int .i8 a1_5] 38 (0, 0)) (by (with_reducible repeat (first | refine blk_drewN ?_ _ | refine blk_drew ?_ | refine blk_alloc ?_ _)); exact BK280.out) hb); have n2_ := Aside0.mk (below_step (by repeat (first | (with_reducible first | exact HB.out | apply below_alloc | apply pw_below_drewN | apply below_drew1 | refine below_set ?_ GE280.out) | exact HB.out)) hb); clear HO283; clear BK280; clear HB; have HO283 := n0_; have BK280 := n1_; have HB := n2_; clear n0_ n1_ n2_; (try clear hb); (try clear hb2); (try clear hk); (try clear hi)) | ((with_reducible refine gate_dst (N := 14) rfl ?_); refine Kd.R_lit (Kd.int .i64) _ 2 ?hg (N := 14) ?hd (xs := ([a2] : List Int)) (inner := [.int .i64 a2]) (ok := fun _ => True) (okp := fun _ => True) ?hr ?hp (fun _ hk => hk) trivial (Below.refl _ _) (Nat.le_refl _) (by simp) ?_; (case hd => rfl); (case hg => rfl); (case hr => first | (go_simp; done) | (go_simp; rfl)); (case hp => exact (Reps.one (show Kd.M (Kd.int .i64) _ _ _ a2 [.int .i64 a2] from rfl) (Reps.none _ _))); intro v286 w15 ho16 hb hg_ hnew_; clear hg_ hnew_; (first | rw [← Ny285.out] at ho16 | (simp only [Int.reduceToNat] at ho16; rw [← Ny285.out] at ho16)); have n0_ := Aside0.mk (Kd.R_below (by (with_reducible repeat (first | apply Kd.R_alloc | apply Kd.R_drewN | apply Kd.R_drew)); exact HO283.out) hb); have n1_ := Aside0.mk (Kd.R_lower ho16 (below_size (by repeat (first | (with_reducible first | exact HB.out | apply below_alloc | apply pw_below_drewN | apply below_drew1 | refine below_set ?_ GE280.out) | exact HB.out)))); have n2_ := Aside0.mk (blk_below (g := gb280) (o := .cells #[.int .i16 a1_0, .int .i16 a1_1, .int .i16 a1_2, .int .i16 a1_3, .int .i16 a1_4, .int .i8 a1_5] 38 (0, 0)) (by (with_reducible repeat (first | refine blk_drewN ?_ _ | refine blk_drew ?_ | refine blk_alloc ?_ _)); exact BK280.out) hb); have n3_ := Aside0.mk (below_step (by repeat (first | (with_reducible first | exact HB.out | apply below_alloc | apply pw_below_drewN | apply below_drew1 | refine below_set ?_ GE280.out) | exact HB.out)) hb); clear HO283; clear BK280; clear HB; have HO283 := n0_; have HO287 := n1_; have BK280 := n2_; have HB := n3_; clear n0_ n1_ n2_ n3_; clear hb ho16; obtain ⟨Ao17, co17, eo17⟩ := Kd.R_slice HO287.out; subst eo17) | ((with_reducible refine gate_callee (f := 79) rfl ?_); refine goesL_ (some 15) rfl rfl Try.func79 (by kernel_rfl) rfl #[.slice Ao17 y285.length co17] rfl (by (try simp only [List.map_toArray, List.map_cons, List.map_nil]); first | done | rfl | (simp only [List.length_drop, List.length_take]; rfl)) ?_; (with_reducible refine (impl_isDay.calls _ _ y285 t288 _ ?side1 ?side2 A5.out).mono ?_); (case side1 => repeat (first | exact (Kd.R_reads' HO287.out).2.2 | (with_reducible refine Kd.C_alloc ?_ _) | (with_reducible refine Kd.C_drewN ?_ _) | (with_reducible refine Kd.C_drew ?_))); (case side2 => exact (Kd.R_reads' HO287.out).2.1); rintro e w18 ⟨rfl, hb⟩; refine ⟨_, rfl, ?_⟩; have n0_ := Aside0.mk (Kd.R_below (by (with_reducible repeat (first | apply Kd.R_alloc | apply Kd.R_drewN | apply Kd.R_drew)); exact HO283.out) hb); have n1_ := Aside0.mk (Kd.R_below (by (with_reducible repeat (first | apply Kd.R_alloc | apply Kd.R_drewN | apply Kd.R_drew)); exact HO287.out) hb); have n2_ := Aside0.mk (blk_below (g := gb280) (o := .cells #[.int .i16 a1_0, .int .i16 a1_1, .int .i16 a1_2, .int .i16 a1_3, .int .i16 a1_4, .int .i8 a1_5] 38 (0, 0)) (by (with_reducible repeat (first | refine blk_drewN ?_ _ | refine blk_drew ?_ | refine blk_alloc ?_ _)); exact BK280.out) hb); have n3_ := Aside0.mk (below_step (by repeat (first | (with_reducible first | exact HB.out | apply below_alloc | apply pw_below_drewN | apply below_drew1 | refine below_set ?_ GE280.out) | exact HB.out)) hb); clear HO283; clear HO287; clear BK280; clear HB; have HO283 := n0_; have HO287 := n1_; have BK280 := n2_; have HB := n3_; clear n0_ n1_ n2_ n3_; (try clear hb); (try clear hb2); (try clear hk); (try clear hi)) | ((with_reducible refine gate_callee (f := 67) rfl ?_); refine goesL_ (some 16) rfl rfl Try.func67 (by kernel_rfl) rfl #[.bool t284, .bool t288] rfl (by (try simp only [List.map_toArray, List.map_cons, List.map_nil]); first | done | rfl | (simp only [List.length_drop, List.length_take]; rfl)) ?_; (with_reducible refine (impl_codeOf.calls t284 t288 t289 _ A6.out).mono ?_); rintro e w' ⟨rfl, ⟨nd, rfl⟩⟩; refine ⟨_, rfl, ?_⟩; have hcz19_0 : w18.cell? ⟨gb280, 0, none⟩ = some (.int .i16 a1_0) := (blk_cell BK280.out 0).trans rfl; have hcz19_1 : w18.cell? ⟨gb280, 1, none⟩ = some (.int .i16 a1_1) := (blk_cell BK280.out 1).trans rfl; have hcz19_2 : w18.cell? ⟨gb280, 2, none⟩ = some (.int .i16 a1_2) := (blk_cell BK280.out 2).trans rfl; have hcz19_3 : w18.cell? ⟨gb280, 3, none⟩ = some (.int .i16 a1_3) := (blk_cell BK280.out 3).trans rfl; have hcz19_4 : w18.cell? ⟨gb280, 4, none⟩ = some (.int .i16 a1_4) := (blk_cell BK280.out 4).trans rfl; have hcz19_5 : w18.cell? ⟨gb280, 5, none⟩ = some (.int .i8 a1_5) := (blk_cell BK280.out 5).trans rfl; have hfz19_0 := blk_frozen BK280.out 0; have hfz19_1 := blk_frozen BK280.out 1; have hfz19_2 := blk_frozen BK280.out 2; have hfz19_3 := blk_frozen BK280.out 3; have hfz19_4 := blk_frozen BK280.out 4; have hfz19_5 := blk_frozen BK280.out 5) | ((with_reducible refine gate_callee (f := 74) rfl ?_); refine goesL_ (some 22) rfl rfl Try.func74 (by kernel_rfl) rfl #[.agg #[.int .i16 a1_0, .int .i16 a1_1, .int .i16 a1_2, .int .i16 a1_3, .int .i16 a1_4, .int .i8 a1_5], .int .i64 a2] rfl (by (try simp only [List.map_toArray, List.map_cons, List.map_nil]); first | done | rfl | (simp only [List.length_drop, List.length_take]; rfl)) ?_; (with_reducible refine (impl_Walker_comes.calls a1_0 a1_1 a1_2 a1_3 a1_4 a1_5 a2 t290 _ A8.out).mono ?_); rintro e w20 ⟨rfl, hb⟩; refine ⟨_, rfl, ?_⟩; have n0_ := Aside0.mk (Kd.R_below (by (with_reducible repeat (first | apply Kd.R_alloc | apply Kd.R_drewN | apply Kd.R_drew)); exact HO283.out) hb); have n1_ := Aside0.mk (Kd.R_below (by (with_reducible repeat (first | apply Kd.R_alloc | apply Kd.R_drewN | apply Kd.R_drew)); exact HO287.out) hb); have n2_ := Aside0.mk (blk_below (g := gb280) (o := .cells #[.int .i16 a1_0, .int .i16 a1_1, .int .i16 a1_2, .int .i16 a1_3, .int .i16 a1_4, .int .i8 a1_5] 38 (0, 0)) (by (with_reducible repeat (first | refine blk_drewN ?_ _ | refine blk_drew ?_ | refine blk_alloc ?_ _)); exact BK280.out) hb); have n3_ := Aside0.mk (below_step (by repeat (first | (with_reducible first | exact HB.out | apply below_alloc | apply pw_below_drewN | apply below_drew1 | refine below_set ?_ GE280.out) | exact HB.out)) hb); clear HO283; clear HO287; clear BK280; clear HB; have HO283 := n0_; have HO287 := n1_; have BK280 := n2_; have HB := n3_; clear n0_ n1_ n2_ n3_; (try clear hb); (try clear hb2); (try clear hk); (try clear hi)))
    go_ret2
    exact ⟨by first | rfl | (simp [errW_none, errW_some] <;> rfl) | (simp [*, errW_none, errW_some] <;> rfl), by repeat (first | (with_reducible first | exact HB.out | apply below_alloc | apply pw_below_drewN | apply below_drew1 | refine below_set ?_ GE280.out) | exact HB.out)⟩
  · rw [if_neg c7] at H
    have c7b0 : (t289 == 0) = false := beq_eq_false_iff_ne.mpr c7
    have c7b1 : (t289 != 0) = true := bne_iff_ne.mpr c7
    simp only [Option.some.injEq, Prod.mk.injEq] at H
    obtain ⟨rfl, rfl⟩ := H
    go_enter Try.func18, Try.ntmps18
    go_wp2_with (first | ((with_reducible refine gate_dst (N := 4) rfl ?_); refine box_event ?hg (N := 4) ?hd (cs := #[.int .i16 a1_0, .int .i16 a1_1, .int .i16 a1_2, .int .i16 a1_3, .int .i16 a1_4, .int .i8 a1_5]) (t := 38) ?hr ?_; (case hd => rfl); (case hg => rfl); (case hr => first | (go_simp; done) | (go_simp; rfl)); intro gb280 hg w21 hbox hb; have n0_ := Aside0.mk (below_step (by repeat (first | (with_reducible first | exact HB.out | apply below_alloc | apply pw_below_drewN | apply below_drew1) | exact HB.out)) hb); have n1_ := Aside0.mk (hbox); have n2_ := Aside0.mk ((by rw [hg]; exact (below_size (by repeat (first | (with_reducible first | exact HB.out | apply below_alloc | apply pw_below_drewN | apply below_drew1) | exact HB.out))) : w.heap.size ≤ gb280)); have n3_ := Aside0.mk ((by rw [hg]; exact (below_size (by repeat (first | (with_reducible first | exact HB.out | apply below_alloc | apply pw_below_drewN | apply below_drew1) | exact HB.out))) : w.heap.size ≤ gb280)); clear HB; have HB := n0_; have BK280 := n1_; have GW280 := n2_; have GE280 := n3_; clear n0_ n1_ n2_ n3_; clear hb hbox hg; have hcz22_0 : w21.cell? ⟨gb280, 0, none⟩ = some (.int .i16 a1_0) := (blk_cell BK280.out 0).trans rfl; have hcz22_1 : w21.cell? ⟨gb280, 1, none⟩ = some (.int .i16 a1_1) := (blk_cell BK280.out 1).trans rfl; have hcz22_2 : w21.cell? ⟨gb280, 2, none⟩ = some (.int .i16 a1_2) := (blk_cell BK280.out 2).trans rfl; have hcz22_3 : w21.cell? ⟨gb280, 3, none⟩ = some (.int .i16 a1_3) := (blk_cell BK280.out 3).trans rfl; have hcz22_4 : w21.cell? ⟨gb280, 4, none⟩ = some (.int .i16 a1_4) := (blk_cell BK280.out 4).trans rfl; have hcz22_5 : w21.cell? ⟨gb280, 5, none⟩ = some (.int .i8 a1_5) := (blk_cell BK280.out 5).trans rfl; have hfz22_0 := blk_frozen BK280.out 0; have hfz22_1 := blk_frozen BK280.out 1; have hfz22_2 := blk_frozen BK280.out 2; have hfz22_3 := blk_frozen BK280.out 3; have hfz22_4 := blk_frozen BK280.out 4; have hfz22_5 := blk_frozen BK280.out 5) | ((with_reducible refine gate_dst (N := 11) rfl ?_); refine Kd.R_lit k38 _ 38 ?hg (N := 11) ?hd (xs := ([(⟨a1_0, a1_1, a1_2, a1_3, a1_4, a1_5⟩ : S38)] : List (S38))) (inner := [.int .i16 a1_0, .int .i16 a1_1, .int .i16 a1_2, .int .i16 a1_3, .int .i16 a1_4, .int .i8 a1_5]) (ok := fun _ => True) (okp := fun _ => True) ?hr ?hp (fun _ hk => hk) trivial (Below.refl _ _) (Nat.le_refl _) (by simp) ?_; (case hd => rfl); (case hg => rfl); (case hr => first | (go_simp; done) | (go_simp; rfl)); (case hp => exact (Reps.c6 (show Kd.M k38 _ _ _ (⟨a1_0, a1_1, a1_2, a1_3, a1_4, a1_5⟩ : S38) [.int .i16 a1_0, .int .i16 a1_1, .int .i16 a1_2, .int .i16 a1_3, .int .i16 a1_4, .int .i8 a1_5] from (k38_mkM _ _ _ (⟨a1_0, a1_1, a1_2, a1_3, a1_4, a1_5⟩ : S38) )) (Reps.none _ _))); intro v282 w23 ho24 hb hg_ hnew_; clear hg_ hnew_; (first | rw [← Ny281.out] at ho24 | (simp only [Int.reduceToNat] at ho24; rw [← Ny281.out] at ho24)); have n0_ := Aside0.mk (Kd.R_lower (Kd.R_newB ho24 (g := gb280) (o := .cells #[.int .i16 a1_0, .int .i16 a1_1, .int .i16 a1_2, .int .i16 a1_3, .int .i16 a1_4, .int .i8 a1_5] 38 (0, 0)) (by (with_reducible repeat (first | refine blk_drewN ?_ _ | refine blk_drew ?_ | refine blk_alloc ?_ _)); exact BK280.out)) (below_size (by repeat (first | (with_reducible first | exact HB.out | apply below_alloc | apply pw_below_drewN | apply below_drew1 | refine below_set ?_ GE280.out) | exact HB.out)))); have n1_ := Aside0.mk (blk_below (g := gb280) (o := .cells #[.int .i16 a1_0, .int .i16 a1_1, .int .i16 a1_2, .int .i16 a1_3, .int .i16 a1_4, .int .i8 a1_5] 38 (0, 0)) (by (with_reducible repeat (first | refine blk_drewN ?_ _ | refine blk_drew ?_ | refine blk_alloc ?_ _)); exact BK280.out) hb); have n2_ := Aside0.mk (below_step (by repeat (first | (with_reducible first | exact HB.out | apply below_alloc | apply pw_below_drewN | apply below_drew1 | refine below_set ?_ GE280.out) | exact HB.out)) hb); clear BK280; clear HB; have HO283 := n0_; have BK280 := n1_; have HB := n2_; clear n0_ n1_ n2_; clear hb ho24; obtain ⟨Ao25, co25, eo25⟩ := Kd.R_slice HO283.out; subst eo25) | ((with_reducible refine gate_callee (f := 51) rfl ?_); refine goesL_ (some 12) rfl rfl Try.func51 (by kernel_rfl) rfl #[.int .i64 a0, .slice Ao25 y281.length co25] rfl (by (try simp only [List.map_toArray, List.map_cons, List.map_nil]); first | done | rfl | (simp only [List.length_drop, List.length_take]; rfl)) ?_; (with_reducible refine (impl_ValidWalkers.calls a0 _ _ y281 t284 _ ?side1 ?side2 A4.out).mono ?_); (case side1 => repeat (first | exact (Kd.R_reads' HO283.out).2.2 | (with_reducible refine Kd.C_alloc ?_ _) | (with_reducible refine Kd.C_drewN ?_ _) | (with_reducible refine Kd.C_drew ?_))); (case side2 => exact (Kd.R_reads' HO283.out).2.1); rintro e w26 ⟨rfl, hb⟩; refine ⟨_, rfl, ?_⟩; have n0_ := Aside0.mk (Kd.R_below (by (with_reducible repeat (first | apply Kd.R_alloc | apply Kd.R_drewN | apply Kd.R_drew)); exact HO283.out) hb); have n1_ := Aside0.mk (blk_below (g := gb280) (o := .cells #[.int .i16 a1_0, .int .i16 a1_1, .int .i16 a1_2, .int .i16 a1_3, .int .i16 a1_4, .int .i8 a1_5] 38 (0, 0)) (by (with_reducible repeat (first | refine blk_drewN ?_ _ | refine blk_drew ?_ | refine blk_alloc ?_ _)); exact BK280.out) hb); have n2_ := Aside0.mk (below_step (by repeat (first | (with_reducible first | exact HB.out | apply below_alloc | apply pw_below_drewN | apply below_drew1 | refine below_set ?_ GE280.out) | exact HB.out)) hb); clear HO283; clear BK280; clear HB; have HO283 := n0_; have BK280 := n1_; have HB := n2_; clear n0_ n1_ n2_; (try clear hb); (try clear hb2); (try clear hk); (try clear hi)) | ((with_reducible refine gate_dst (N := 14) rfl ?_); refine Kd.R_lit (Kd.int .i64) _ 2 ?hg (N := 14) ?hd (xs := ([a2] : List Int)) (inner := [.int .i64 a2]) (ok := fun _ => True) (okp := fun _ => True) ?hr ?hp (fun _ hk => hk) trivial (Below.refl _ _) (Nat.le_refl _) (by simp) ?_; (case hd => rfl); (case hg => rfl); (case hr => first | (go_simp; done) | (go_simp; rfl)); (case hp => exact (Reps.one (show Kd.M (Kd.int .i64) _ _ _ a2 [.int .i64 a2] from rfl) (Reps.none _ _))); intro v286 w27 ho28 hb hg_ hnew_; clear hg_ hnew_; (first | rw [← Ny285.out] at ho28 | (simp only [Int.reduceToNat] at ho28; rw [← Ny285.out] at ho28)); have n0_ := Aside0.mk (Kd.R_below (by (with_reducible repeat (first | apply Kd.R_alloc | apply Kd.R_drewN | apply Kd.R_drew)); exact HO283.out) hb); have n1_ := Aside0.mk (Kd.R_lower ho28 (below_size (by repeat (first | (with_reducible first | exact HB.out | apply below_alloc | apply pw_below_drewN | apply below_drew1 | refine below_set ?_ GE280.out) | exact HB.out)))); have n2_ := Aside0.mk (blk_below (g := gb280) (o := .cells #[.int .i16 a1_0, .int .i16 a1_1, .int .i16 a1_2, .int .i16 a1_3, .int .i16 a1_4, .int .i8 a1_5] 38 (0, 0)) (by (with_reducible repeat (first | refine blk_drewN ?_ _ | refine blk_drew ?_ | refine blk_alloc ?_ _)); exact BK280.out) hb); have n3_ := Aside0.mk (below_step (by repeat (first | (with_reducible first | exact HB.out | apply below_alloc | apply pw_below_drewN | apply below_drew1 | refine below_set ?_ GE280.out) | exact HB.out)) hb); clear HO283; clear BK280; clear HB; have HO283 := n0_; have HO287 := n1_; have BK280 := n2_; have HB := n3_; clear n0_ n1_ n2_ n3_; clear hb ho28; obtain ⟨Ao29, co29, eo29⟩ := Kd.R_slice HO287.out; subst eo29) | ((with_reducible refine gate_callee (f := 79) rfl ?_); refine goesL_ (some 15) rfl rfl Try.func79 (by kernel_rfl) rfl #[.slice Ao29 y285.length co29] rfl (by (try simp only [List.map_toArray, List.map_cons, List.map_nil]); first | done | rfl | (simp only [List.length_drop, List.length_take]; rfl)) ?_; (with_reducible refine (impl_isDay.calls _ _ y285 t288 _ ?side1 ?side2 A5.out).mono ?_); (case side1 => repeat (first | exact (Kd.R_reads' HO287.out).2.2 | (with_reducible refine Kd.C_alloc ?_ _) | (with_reducible refine Kd.C_drewN ?_ _) | (with_reducible refine Kd.C_drew ?_))); (case side2 => exact (Kd.R_reads' HO287.out).2.1); rintro e w30 ⟨rfl, hb⟩; refine ⟨_, rfl, ?_⟩; have n0_ := Aside0.mk (Kd.R_below (by (with_reducible repeat (first | apply Kd.R_alloc | apply Kd.R_drewN | apply Kd.R_drew)); exact HO283.out) hb); have n1_ := Aside0.mk (Kd.R_below (by (with_reducible repeat (first | apply Kd.R_alloc | apply Kd.R_drewN | apply Kd.R_drew)); exact HO287.out) hb); have n2_ := Aside0.mk (blk_below (g := gb280) (o := .cells #[.int .i16 a1_0, .int .i16 a1_1, .int .i16 a1_2, .int .i16 a1_3, .int .i16 a1_4, .int .i8 a1_5] 38 (0, 0)) (by (with_reducible repeat (first | refine blk_drewN ?_ _ | refine blk_drew ?_ | refine blk_alloc ?_ _)); exact BK280.out) hb); have n3_ := Aside0.mk (below_step (by repeat (first | (with_reducible first | exact HB.out | apply below_alloc | apply pw_below_drewN | apply below_drew1 | refine below_set ?_ GE280.out) | exact HB.out)) hb); clear HO283; clear HO287; clear BK280; clear HB; have HO283 := n0_; have HO287 := n1_; have BK280 := n2_; have HB := n3_; clear n0_ n1_ n2_ n3_; (try clear hb); (try clear hb2); (try clear hk); (try clear hi)) | ((with_reducible refine gate_callee (f := 67) rfl ?_); refine goesL_ (some 16) rfl rfl Try.func67 (by kernel_rfl) rfl #[.bool t284, .bool t288] rfl (by (try simp only [List.map_toArray, List.map_cons, List.map_nil]); first | done | rfl | (simp only [List.length_drop, List.length_take]; rfl)) ?_; (with_reducible refine (impl_codeOf.calls t284 t288 t289 _ A6.out).mono ?_); rintro e w' ⟨rfl, ⟨nd, rfl⟩⟩; refine ⟨_, rfl, ?_⟩))
    go_ret2
    exact ⟨by first | rfl | (simp [errW_none, errW_some] <;> rfl) | (simp [*, errW_none, errW_some] <;> rfl), by repeat (first | (with_reducible first | exact HB.out | apply below_alloc | apply pw_below_drewN | apply below_drew1 | refine below_set ?_ GE280.out) | exact HB.out)⟩
end Go.Proofs.Ytmheflciiodhdaa.P
-- Written by wip/tools/mkprint.py of this repo, over the kit's print, out of the translation; Lean checks it.
namespace Go.Proofs.Ytmheflciiodhdaa.P
open Go.RowKit Go.Proofs.YtmheflciiodhdaaW.PrintWords Go.Proofs.YtmheflciiodhdaaW.PrintLast Go.Proofs.YtmheflciiodhdaaW.PrintMore
attribute [local go_sem] max2_int min2_int max_two min_two max_three min_three max_four min_four   -- for this text's walks alone
set_option linter.unusedVariables false
set_option linter.unusedSimpArgs false
/-! ### spec_DayOf: function 16 -/
def spec_DayOf.f (k : Nat) (l0 : List Int) (l1 : List (S38)) (a2 : Int) : Option (List Int × Int) := (spec_l05Day.f a2).bind fun t270 => ((spec_l05Row.f k l0 l1 t270).bind fun t271 => (if t271 = 0 then ((spec_l05Behind.f k l0 l1 a2).bind fun t272 => (some (t272, 0))) else (some ((([] : List Int)), t271))))
theorem spec_DayOf.mono : ∀ a0 a1 a2 k, LeO (spec_DayOf.f k a0 a1 a2) (spec_DayOf.f (k + 1) a0 a1 a2) := by
  intro a0 a1 a2 k
  unfold spec_DayOf.f
  repeat' first
      | (with_reducible exact spec_l05Behind.mono _ _ _ _)
      | (with_reducible exact spec_l05Row.mono _ _ _ _)
      | (with_reducible exact LeO.refl _)
      | (with_reducible exact LeO.none _)
      | (with_reducible refine LeO.ite ?_ ?_)
      | (with_reducible refine LeO.bind ?_ (fun _ => ?_))
      | exact spec_l05Behind.mono _ _ _ _
      | exact spec_l05Row.mono _ _ _ _
      | exact LeO.none _
      | refine LeO.ite ?_ ?_
      | refine LeO.bind ?_ (fun _ => ?_)
set_option maxHeartbeats 8000000 in
set_option maxRecDepth 100000 in
theorem spec_DayOf.calls (k : Nat) (A0 : Option Addr) (c0 : Nat) (l0 : List Int) (A1 : Option Addr) (c1 : Nat) (l1 : List (S38)) (a2 : Int) (r1 : List Int) (r2 : Int) (w : World) (hr0 : Kd.C (Kd.int .u8) w A0 l0.length l0) (hc0 : l0.length ≤ c0) (hr1 : Kd.C k38 w A1 l1.length l1) (hc1 : l1.length ≤ c1) (h : spec_DayOf.f k l0 l1 a2 = some (r1, r2)) :
    Calls Try.prog 16 #[.slice A0 l0.length c0, .slice A1 l1.length c1, .int .i64 a2] w fun e w' => ∃ v0_ : Value, e = .returned (.tuple #[v0_, .int .i64 r2]) ∧ Kd.R (Kd.int .u8) 5 w' w.heap.size (fun _ => True) v0_ r1 ∧ Below w.heap.size w w' := by
  have HR0 := Aside0.mk hr0
  have HC0 := Aside0.mk hc0
  clear hr0 hc0
  have HR1 := Aside0.mk hr1
  have HC1 := Aside0.mk hc1
  clear hr1 hc1
  have HB := Aside0.mk (Below.refl w.heap.size w)
  have H : ((spec_l05Day.f a2).bind fun t270 => ((spec_l05Row.f k l0 l1 t270).bind fun t271 => (if t271 = 0 then ((spec_l05Behind.f k l0 l1 a2).bind fun t272 => (some (t272, 0))) else (some ((([] : List Int)), t271))))) = some (r1, r2) := h
  clear h
  replace H := Option.bind_eq_some_iff.mp H
  obtain ⟨t270, A40, H⟩ := H
  replace H : ((spec_l05Row.f k l0 l1 t270).bind fun t271 => (if t271 = 0 then ((spec_l05Behind.f k l0 l1 a2).bind fun t272 => (some (t272, 0))) else (some ((([] : List Int)), t271)))) = some (r1, r2) := H
  have A4 := Aside0.mk A40
  clear A40
  replace H := Option.bind_eq_some_iff.mp H
  obtain ⟨t271, A50, H⟩ := H
  replace H : (if t271 = 0 then ((spec_l05Behind.f k l0 l1 a2).bind fun t272 => (some (t272, 0))) else (some ((([] : List Int)), t271))) = some (r1, r2) := H
  have A5 := Aside0.mk A50
  clear A50
  by_cases c6 : t271 = 0
  · rw [if_pos c6] at H
    have c6b0 : (t271 == 0) = true := beq_iff_eq.mpr c6
    have c6b1 : (t271 != 0) = false := bne_eq_false_iff_eq.mpr c6
    clear c6
    replace H := Option.bind_eq_some_iff.mp H
    obtain ⟨t272, A70, H⟩ := H
    replace H : (some (t272, 0)) = some (r1, r2) := H
    have A7 := Aside0.mk A70
    clear A70
    simp only [Option.some.injEq, Prod.mk.injEq] at H
    obtain ⟨rfl, rfl⟩ := H
    go_enter Try.func16, Try.ntmps16
    go_wp2_with (first | ((with_reducible refine gate_callee (f := 65) rfl ?_); refine goesL_ (some 12) rfl rfl Try.func65 (by kernel_rfl) rfl #[.int .i64 a2] rfl (by (try simp only [List.map_toArray, List.map_cons, List.map_nil]); first | done | rfl | (simp only [List.length_drop, List.length_take]; rfl)) ?_; (with_reducible refine (spec_l05Day.calls a2 t270 _ A4.out).mono ?_); rintro e w' ⟨rfl, ⟨nd, rfl⟩⟩; refine ⟨_, rfl, ?_⟩) | ((with_reducible refine gate_callee (f := 64) rfl ?_); refine goesL_ (some 13) rfl rfl Try.func64 (by kernel_rfl) rfl #[.slice A0 l0.length c0, .slice A1 l1.length c1, .bool t270] rfl (by (try simp only [List.map_toArray, List.map_cons, List.map_nil]); first | done | rfl | (simp only [List.length_drop, List.length_take]; rfl)) ?_; (with_reducible refine (spec_l05Row.calls k _ _ l0 _ _ l1 t270 t271 _ ?side1 ?side2 ?side3 ?side4 A5.out).mono ?_); (case side1 => repeat (first | exact HR0.out | (with_reducible refine Kd.C_alloc ?_ _) | (with_reducible refine Kd.C_drewN ?_ _) | (with_reducible refine Kd.C_drew ?_))); (case side2 => exact HC0.out); (case side3 => repeat (first | exact HR1.out | (with_reducible refine Kd.C_alloc ?_ _) | (with_reducible refine Kd.C_drewN ?_ _) | (with_reducible refine Kd.C_drew ?_))); (case side4 => exact HC1.out); rintro e w8 ⟨rfl, hb⟩; refine ⟨_, rfl, ?_⟩; have n0_ := Aside0.mk (below_step (by repeat (first | (with_reducible first | exact HB.out | apply below_alloc | apply pw_below_drewN | apply below_drew1) | exact HB.out)) hb); clear HB; have HB := n0_; clear n0_; (try clear hb); (try clear hb2); (try clear hk); (try clear hi)) | ((with_reducible refine gate_callee (f := 78) rfl ?_); refine goesL_ (some 21) rfl rfl Try.func78 (by kernel_rfl) rfl #[.slice A0 l0.length c0, .slice A1 l1.length c1, .int .i64 a2] rfl (by (try simp only [List.map_toArray, List.map_cons, List.map_nil]); first | done | rfl | (simp only [List.length_drop, List.length_take]; rfl)) ?_; (with_reducible refine (spec_l05Behind.calls k _ _ l0 _ _ l1 a2 t272 _ ?side1 ?side2 ?side3 ?side4 A7.out).mono ?_); (case side1 => repeat (first | exact (Kd.C_below HR0.out HB.out) | (with_reducible refine Kd.C_alloc ?_ _) | (with_reducible refine Kd.C_drewN ?_ _) | (with_reducible refine Kd.C_drew ?_))); (case side2 => exact HC0.out); (case side3 => repeat (first | exact (Kd.C_below HR1.out HB.out) | (with_reducible refine Kd.C_alloc ?_ _) | (with_reducible refine Kd.C_drewN ?_ _) | (with_reducible refine Kd.C_drew ?_))); (case side4 => exact HC1.out); rintro e w9 ⟨v273, rfl, ho0, hb⟩; refine ⟨_, rfl, ?_⟩; have n0_ := Aside0.mk (Kd.R_lower ho0 (below_size (by repeat (first | (with_reducible first | exact HB.out | apply below_alloc | apply pw_below_drewN | apply below_drew1) | exact HB.out)))); have n1_ := Aside0.mk (below_step (by repeat (first | (with_reducible first | exact HB.out | apply below_alloc | apply pw_below_drewN | apply below_drew1) | exact HB.out)) hb); clear HB; have HO274 := n0_; have HB := n1_; clear n0_ n1_; (try clear hb); (try clear hb2); (try clear hk); (try clear hi); (try clear ho0)))
    go_ret2
    exact ⟨_, by first | rfl | (simp [errW_none, errW_some] <;> rfl) | (simp [*, errW_none, errW_some] <;> rfl), by (with_reducible repeat (first | apply Kd.R_alloc | apply Kd.R_drewN | apply Kd.R_drew)); exact HO274.out, by repeat (first | (with_reducible first | exact HB.out | apply below_alloc | apply pw_below_drewN | apply below_drew1) | exact HB.out)⟩
  · rw [if_neg c6] at H
    have c6b0 : (t271 == 0) = false := beq_eq_false_iff_ne.mpr c6
    have c6b1 : (t271 != 0) = true := bne_iff_ne.mpr c6
    obtain ⟨y275, hy275⟩ : ∃ y_ : List Int, y_ = (([] : List Int)) := ⟨_, rfl⟩
    replace H : (some (y275, t271)) = some (r1, r2) := by first | (rw [hy275]; with_reducible exact H) | (have H2_ := (Option.bind_some _ _).symm.trans H; rw [hy275]; with_reducible exact H2_) | (have H2_ := (Option.bind_some _ _).symm.trans H; with_reducible exact H2_) | with_reducible exact H | (rw [hy275]; exact H) | exact H
    have Ny275 := Aside0.mk hy275
    clear hy275
    simp only [Option.some.injEq, Prod.mk.injEq] at H
    obtain ⟨rfl, rfl⟩ := H
    go_enter Try.func16, Try.ntmps16
    go_wp2_with (first | ((with_reducible refine gate_callee (f := 65) rfl ?_); refine goesL_ (some 12) rfl rfl Try.func65 (by kernel_rfl) rfl #[.int .i64 a2] rfl (by (try simp only [List.map_toArray, List.map_cons, List.map_nil]); first | done | rfl | (simp only [List.length_drop, List.length_take]; rfl)) ?_; (with_reducible refine (spec_l05Day.calls a2 t270 _ A4.out).mono ?_); rintro e w' ⟨rfl, ⟨nd, rfl⟩⟩; refine ⟨_, rfl, ?_⟩) | ((with_reducible refine gate_callee (f := 64) rfl ?_); refine goesL_ (some 13) rfl rfl Try.func64 (by kernel_rfl) rfl #[.slice A0 l0.length c0, .slice A1 l1.length c1, .bool t270] rfl (by (try simp only [List.map_toArray, List.map_cons, List.map_nil]); first | done | rfl | (simp only [List.length_drop, List.length_take]; rfl)) ?_; (with_reducible refine (spec_l05Row.calls k _ _ l0 _ _ l1 t270 t271 _ ?side1 ?side2 ?side3 ?side4 A5.out).mono ?_); (case side1 => repeat (first | exact HR0.out | (with_reducible refine Kd.C_alloc ?_ _) | (with_reducible refine Kd.C_drewN ?_ _) | (with_reducible refine Kd.C_drew ?_))); (case side2 => exact HC0.out); (case side3 => repeat (first | exact HR1.out | (with_reducible refine Kd.C_alloc ?_ _) | (with_reducible refine Kd.C_drewN ?_ _) | (with_reducible refine Kd.C_drew ?_))); (case side4 => exact HC1.out); rintro e w10 ⟨rfl, hb⟩; refine ⟨_, rfl, ?_⟩; have n0_ := Aside0.mk (below_step (by repeat (first | (with_reducible first | exact HB.out | apply below_alloc | apply pw_below_drewN | apply below_drew1) | exact HB.out)) hb); clear HB; have HB := n0_; clear n0_; (try clear hb); (try clear hb2); (try clear hk); (try clear hi)) | ((with_reducible refine gate_dst (N := 16) rfl ?_); refine Kd.R_lit (Kd.int .u8) _ 5 ?hg (N := 16) ?hd (xs := ([] : List Int)) (inner := []) (ok := fun _ => True) (okp := fun _ => True) ?hr ?hp (fun _ hk => hk) trivial (Below.refl _ _) (Nat.le_refl _) (by simp) ?_; (case hd => rfl); (case hg => rfl); (case hr => first | (go_simp; done) | (go_simp; rfl)); (case hp => exact (Reps.none _ _)); intro v276 w11 ho12 hb hg_ hnew_; clear hg_ hnew_; (first | rw [← Ny275.out] at ho12 | (simp only [Int.reduceToNat] at ho12; rw [← Ny275.out] at ho12)); have n0_ := Aside0.mk (Kd.R_lower ho12 (below_size (by repeat (first | (with_reducible first | exact HB.out | apply below_alloc | apply pw_below_drewN | apply below_drew1) | exact HB.out)))); have n1_ := Aside0.mk (below_step (by repeat (first | (with_reducible first | exact HB.out | apply below_alloc | apply pw_below_drewN | apply below_drew1) | exact HB.out)) hb); clear HB; have HO277 := n0_; have HB := n1_; clear n0_ n1_; clear hb ho12))
    go_ret2
    exact ⟨_, by first | rfl | (simp [errW_none, errW_some] <;> rfl) | (simp [*, errW_none, errW_some] <;> rfl), by (with_reducible repeat (first | apply Kd.R_alloc | apply Kd.R_drewN | apply Kd.R_drew)); exact HO277.out, by repeat (first | (with_reducible first | exact HB.out | apply below_alloc | apply pw_below_drewN | apply below_drew1) | exact HB.out)⟩
end Go.Proofs.Ytmheflciiodhdaa.P
-- Written by wip/tools/mkprint.py of this repo, over the kit's print, out of the translation; Lean checks it.
namespace Go.Proofs.Ytmheflciiodhdaa.P
open Go.RowKit Go.Proofs.YtmheflciiodhdaaW.PrintWords Go.Proofs.YtmheflciiodhdaaW.PrintLast Go.Proofs.YtmheflciiodhdaaW.PrintMore
attribute [local go_sem] max2_int min2_int max_two min_two max_three min_three max_four min_four   -- for this text's walks alone
set_option linter.unusedVariables false
set_option linter.unusedSimpArgs false
/-! ### spec_RowOn: function 12 -/
def spec_RowOn.f (k : Nat) (l0 : List Int) (l1 : List (S38)) (a2 : Int) : Option (List Int × Int) := (spec_l05Day.f a2).bind fun t223 => ((spec_l05Row.f k l0 l1 t223).bind fun t224 => (if t224 = 0 then ((spec_l05Whole.f k l0 l1 a2).bind fun t225 => (some (t225, 0))) else (some ((([] : List Int)), t224))))
theorem spec_RowOn.mono : ∀ a0 a1 a2 k, LeO (spec_RowOn.f k a0 a1 a2) (spec_RowOn.f (k + 1) a0 a1 a2) := by
  intro a0 a1 a2 k
  unfold spec_RowOn.f
  repeat' first
      | (with_reducible exact spec_l05Row.mono _ _ _ _)
      | (with_reducible exact spec_l05Whole.mono _ _ _ _)
      | (with_reducible exact LeO.refl _)
      | (with_reducible exact LeO.none _)
      | (with_reducible refine LeO.ite ?_ ?_)
      | (with_reducible refine LeO.bind ?_ (fun _ => ?_))
      | exact spec_l05Row.mono _ _ _ _
      | exact spec_l05Whole.mono _ _ _ _
      | exact LeO.none _
      | refine LeO.ite ?_ ?_
      | refine LeO.bind ?_ (fun _ => ?_)
set_option maxHeartbeats 8000000 in
set_option maxRecDepth 100000 in
theorem spec_RowOn.calls (k : Nat) (A0 : Option Addr) (c0 : Nat) (l0 : List Int) (A1 : Option Addr) (c1 : Nat) (l1 : List (S38)) (a2 : Int) (r1 : List Int) (r2 : Int) (w : World) (hr0 : Kd.C (Kd.int .u8) w A0 l0.length l0) (hc0 : l0.length ≤ c0) (hr1 : Kd.C k38 w A1 l1.length l1) (hc1 : l1.length ≤ c1) (h : spec_RowOn.f k l0 l1 a2 = some (r1, r2)) :
    Calls Try.prog 12 #[.slice A0 l0.length c0, .slice A1 l1.length c1, .int .i64 a2] w fun e w' => ∃ v0_ : Value, e = .returned (.tuple #[v0_, .int .i64 r2]) ∧ Kd.R (Kd.int .u8) 5 w' w.heap.size (fun _ => True) v0_ r1 ∧ Below w.heap.size w w' := by
  have HR0 := Aside0.mk hr0
  have HC0 := Aside0.mk hc0
  clear hr0 hc0
  have HR1 := Aside0.mk hr1
  have HC1 := Aside0.mk hc1
  clear hr1 hc1
  have HB := Aside0.mk (Below.refl w.heap.size w)
  have H : ((spec_l05Day.f a2).bind fun t223 => ((spec_l05Row.f k l0 l1 t223).bind fun t224 => (if t224 = 0 then ((spec_l05Whole.f k l0 l1 a2).bind fun t225 => (some (t225, 0))) else (some ((([] : List Int)), t224))))) = some (r1, r2) := h
  clear h
  replace H := Option.bind_eq_some_iff.mp H
  obtain ⟨t223, A40, H⟩ := H
  replace H : ((spec_l05Row.f k l0 l1 t223).bind fun t224 => (if t224 = 0 then ((spec_l05Whole.f k l0 l1 a2).bind fun t225 => (some (t225, 0))) else (some ((([] : List Int)), t224)))) = some (r1, r2) := H
  have A4 := Aside0.mk A40
  clear A40
  replace H := Option.bind_eq_some_iff.mp H
  obtain ⟨t224, A50, H⟩ := H
  replace H : (if t224 = 0 then ((spec_l05Whole.f k l0 l1 a2).bind fun t225 => (some (t225, 0))) else (some ((([] : List Int)), t224))) = some (r1, r2) := H
  have A5 := Aside0.mk A50
  clear A50
  by_cases c6 : t224 = 0
  · rw [if_pos c6] at H
    have c6b0 : (t224 == 0) = true := beq_iff_eq.mpr c6
    have c6b1 : (t224 != 0) = false := bne_eq_false_iff_eq.mpr c6
    clear c6
    replace H := Option.bind_eq_some_iff.mp H
    obtain ⟨t225, A70, H⟩ := H
    replace H : (some (t225, 0)) = some (r1, r2) := H
    have A7 := Aside0.mk A70
    clear A70
    simp only [Option.some.injEq, Prod.mk.injEq] at H
    obtain ⟨rfl, rfl⟩ := H
    go_enter Try.func12, Try.ntmps12
    go_wp2_with (first | ((with_reducible refine gate_callee (f := 65) rfl ?_); refine goesL_ (some 12) rfl rfl Try.func65 (by kernel_rfl) rfl #[.int .i64 a2] rfl (by (try simp only [List.map_toArray, List.map_cons, List.map_nil]); first | done | rfl | (simp only [List.length_drop, List.length_take]; rfl)) ?_; (with_reducible refine (spec_l05Day.calls a2 t223 _ A4.out).mono ?_); rintro e w' ⟨rfl, ⟨nd, rfl⟩⟩; refine ⟨_, rfl, ?_⟩) | ((with_reducible refine gate_callee (f := 64) rfl ?_); refine goesL_ (some 13) rfl rfl Try.func64 (by kernel_rfl) rfl #[.slice A0 l0.length c0, .slice A1 l1.length c1, .bool t223] rfl (by (try simp only [List.map_toArray, List.map_cons, List.map_nil]); first | done | rfl | (simp only [List.length_drop, List.length_take]; rfl)) ?_; (with_reducible refine (spec_l05Row.calls k _ _ l0 _ _ l1 t223 t224 _ ?side1 ?side2 ?side3 ?side4 A5.out).mono ?_); (case side1 => repeat (first | exact HR0.out | (with_reducible refine Kd.C_alloc ?_ _) | (with_reducible refine Kd.C_drewN ?_ _) | (with_reducible refine Kd.C_drew ?_))); (case side2 => exact HC0.out); (case side3 => repeat (first | exact HR1.out | (with_reducible refine Kd.C_alloc ?_ _) | (with_reducible refine Kd.C_drewN ?_ _) | (with_reducible refine Kd.C_drew ?_))); (case side4 => exact HC1.out); rintro e w8 ⟨rfl, hb⟩; refine ⟨_, rfl, ?_⟩; have n0_ := Aside0.mk (below_step (by repeat (first | (with_reducible first | exact HB.out | apply below_alloc | apply pw_below_drewN | apply below_drew1) | exact HB.out)) hb); clear HB; have HB := n0_; clear n0_; (try clear hb); (try clear hb2); (try clear hk); (try clear hi)) | ((with_reducible refine gate_callee (f := 66) rfl ?_); refine goesL_ (some 21) rfl rfl Try.func66 (by kernel_rfl) rfl #[.slice A0 l0.length c0, .slice A1 l1.length c1, .int .i64 a2] rfl (by (try simp only [List.map_toArray, List.map_cons, List.map_nil]); first | done | rfl | (simp only [List.length_drop, List.length_take]; rfl)) ?_; (with_reducible refine (spec_l05Whole.calls k _ _ l0 _ _ l1 a2 t225 _ ?side1 ?side2 ?side3 ?side4 A7.out).mono ?_); (case side1 => repeat (first | exact (Kd.C_below HR0.out HB.out) | (with_reducible refine Kd.C_alloc ?_ _) | (with_reducible refine Kd.C_drewN ?_ _) | (with_reducible refine Kd.C_drew ?_))); (case side2 => exact HC0.out); (case side3 => repeat (first | exact (Kd.C_below HR1.out HB.out) | (with_reducible refine Kd.C_alloc ?_ _) | (with_reducible refine Kd.C_drewN ?_ _) | (with_reducible refine Kd.C_drew ?_))); (case side4 => exact HC1.out); rintro e w9 ⟨v226, rfl, ho0, hb⟩; refine ⟨_, rfl, ?_⟩; have n0_ := Aside0.mk (Kd.R_lower ho0 (below_size (by repeat (first | (with_reducible first | exact HB.out | apply below_alloc | apply pw_below_drewN | apply below_drew1) | exact HB.out)))); have n1_ := Aside0.mk (below_step (by repeat (first | (with_reducible first | exact HB.out | apply below_alloc | apply pw_below_drewN | apply below_drew1) | exact HB.out)) hb); clear HB; have HO227 := n0_; have HB := n1_; clear n0_ n1_; (try clear hb); (try clear hb2); (try clear hk); (try clear hi); (try clear ho0)))
    go_ret2
    exact ⟨_, by first | rfl | (simp [errW_none, errW_some] <;> rfl) | (simp [*, errW_none, errW_some] <;> rfl), by (with_reducible repeat (first | apply Kd.R_alloc | apply Kd.R_drewN | apply Kd.R_drew)); exact HO227.out, by repeat (first | (with_reducible first | exact HB.out | apply below_alloc | apply pw_below_drewN | apply below_drew1) | exact HB.out)⟩
  · rw [if_neg c6] at H
    have c6b0 : (t224 == 0) = false := beq_eq_false_iff_ne.mpr c6
    have c6b1 : (t224 != 0) = true := bne_iff_ne.mpr c6
    obtain ⟨y228, hy228⟩ : ∃ y_ : List Int, y_ = (([] : List Int)) := ⟨_, rfl⟩
    replace H : (some (y228, t224)) = some (r1, r2) := by first | (rw [hy228]; with_reducible exact H) | (have H2_ := (Option.bind_some _ _).symm.trans H; rw [hy228]; with_reducible exact H2_) | (have H2_ := (Option.bind_some _ _).symm.trans H; with_reducible exact H2_) | with_reducible exact H | (rw [hy228]; exact H) | exact H
    have Ny228 := Aside0.mk hy228
    clear hy228
    simp only [Option.some.injEq, Prod.mk.injEq] at H
    obtain ⟨rfl, rfl⟩ := H
    go_enter Try.func12, Try.ntmps12
    go_wp2_with (first | ((with_reducible refine gate_callee (f := 65) rfl ?_); refine goesL_ (some 12) rfl rfl Try.func65 (by kernel_rfl) rfl #[.int .i64 a2] rfl (by (try simp only [List.map_toArray, List.map_cons, List.map_nil]); first | done | rfl | (simp only [List.length_drop, List.length_take]; rfl)) ?_; (with_reducible refine (spec_l05Day.calls a2 t223 _ A4.out).mono ?_); rintro e w' ⟨rfl, ⟨nd, rfl⟩⟩; refine ⟨_, rfl, ?_⟩) | ((with_reducible refine gate_callee (f := 64) rfl ?_); refine goesL_ (some 13) rfl rfl Try.func64 (by kernel_rfl) rfl #[.slice A0 l0.length c0, .slice A1 l1.length c1, .bool t223] rfl (by (try simp only [List.map_toArray, List.map_cons, List.map_nil]); first | done | rfl | (simp only [List.length_drop, List.length_take]; rfl)) ?_; (with_reducible refine (spec_l05Row.calls k _ _ l0 _ _ l1 t223 t224 _ ?side1 ?side2 ?side3 ?side4 A5.out).mono ?_); (case side1 => repeat (first | exact HR0.out | (with_reducible refine Kd.C_alloc ?_ _) | (with_reducible refine Kd.C_drewN ?_ _) | (with_reducible refine Kd.C_drew ?_))); (case side2 => exact HC0.out); (case side3 => repeat (first | exact HR1.out | (with_reducible refine Kd.C_alloc ?_ _) | (with_reducible refine Kd.C_drewN ?_ _) | (with_reducible refine Kd.C_drew ?_))); (case side4 => exact HC1.out); rintro e w10 ⟨rfl, hb⟩; refine ⟨_, rfl, ?_⟩; have n0_ := Aside0.mk (below_step (by repeat (first | (with_reducible first | exact HB.out | apply below_alloc | apply pw_below_drewN | apply below_drew1) | exact HB.out)) hb); clear HB; have HB := n0_; clear n0_; (try clear hb); (try clear hb2); (try clear hk); (try clear hi)) | ((with_reducible refine gate_dst (N := 16) rfl ?_); refine Kd.R_lit (Kd.int .u8) _ 5 ?hg (N := 16) ?hd (xs := ([] : List Int)) (inner := []) (ok := fun _ => True) (okp := fun _ => True) ?hr ?hp (fun _ hk => hk) trivial (Below.refl _ _) (Nat.le_refl _) (by simp) ?_; (case hd => rfl); (case hg => rfl); (case hr => first | (go_simp; done) | (go_simp; rfl)); (case hp => exact (Reps.none _ _)); intro v229 w11 ho12 hb hg_ hnew_; clear hg_ hnew_; (first | rw [← Ny228.out] at ho12 | (simp only [Int.reduceToNat] at ho12; rw [← Ny228.out] at ho12)); have n0_ := Aside0.mk (Kd.R_lower ho12 (below_size (by repeat (first | (with_reducible first | exact HB.out | apply below_alloc | apply pw_below_drewN | apply below_drew1) | exact HB.out)))); have n1_ := Aside0.mk (below_step (by repeat (first | (with_reducible first | exact HB.out | apply below_alloc | apply pw_below_drewN | apply below_drew1) | exact HB.out)) hb); clear HB; have HO230 := n0_; have HB := n1_; clear n0_ n1_; clear hb ho12))
    go_ret2
    exact ⟨_, by first | rfl | (simp [errW_none, errW_some] <;> rfl) | (simp [*, errW_none, errW_some] <;> rfl), by (with_reducible repeat (first | apply Kd.R_alloc | apply Kd.R_drewN | apply Kd.R_drew)); exact HO230.out, by repeat (first | (with_reducible first | exact HB.out | apply below_alloc | apply pw_below_drewN | apply below_drew1) | exact HB.out)⟩
end Go.Proofs.Ytmheflciiodhdaa.P
-- Written by wip/tools/mkprint.py of this repo, over the kit's print, out of the translation; Lean checks it.
namespace Go.Proofs.Ytmheflciiodhdaa.P
open Go.RowKit Go.Proofs.YtmheflciiodhdaaW.PrintWords Go.Proofs.YtmheflciiodhdaaW.PrintLast Go.Proofs.YtmheflciiodhdaaW.PrintMore
attribute [local go_sem] max2_int min2_int max_two min_two max_three min_three max_four min_four   -- for this text's walks alone
set_option linter.unusedVariables false
set_option linter.unusedSimpArgs false
/-! ### impl_RowOn: function 40 -/
def impl_RowOn.f (k : Nat) (l0 : List Int) (l1 : List (S38)) (a2 : Int) : Option (List Int × Int) := (impl_rowOk.f l0 l1).bind fun t561 => ((impl_isDay.f (([a2] : List Int))).bind fun t565 => ((impl_codeOf.f t561 t565).bind fun t566 => (if t566 = 0 then ((impl_rowOn.f k l0 l1 a2).bind fun t567 => (some (t567, 0))) else (some (([] : List Int), t566)))))
theorem impl_RowOn.mono : ∀ a0 a1 a2 k, LeO (impl_RowOn.f k a0 a1 a2) (impl_RowOn.f (k + 1) a0 a1 a2) := by
  intro a0 a1 a2 k
  unfold impl_RowOn.f
  repeat' first
      | (with_reducible exact impl_rowOn.mono _ _ _ _)
      | (with_reducible exact LeO.refl _)
      | (with_reducible exact LeO.none _)
      | (with_reducible refine LeO.ite ?_ ?_)
      | (with_reducible refine LeO.bind ?_ (fun _ => ?_))
      | exact impl_rowOn.mono _ _ _ _
      | exact LeO.none _
      | refine LeO.ite ?_ ?_
      | refine LeO.bind ?_ (fun _ => ?_)
set_option maxHeartbeats 8000000 in
set_option maxRecDepth 100000 in
theorem impl_RowOn.calls (k : Nat) (A0 : Option Addr) (c0 : Nat) (l0 : List Int) (A1 : Option Addr) (c1 : Nat) (l1 : List (S38)) (a2 : Int) (r1 : List Int) (r2 : Int) (w : World) (hr0 : Kd.C (Kd.int .u8) w A0 l0.length l0) (hc0 : l0.length ≤ c0) (hr1 : Kd.C k38 w A1 l1.length l1) (hc1 : l1.length ≤ c1) (h : impl_RowOn.f k l0 l1 a2 = some (r1, r2)) :
    Calls Try.prog 40 #[.slice A0 l0.length c0, .slice A1 l1.length c1, .int .i64 a2] w fun e w' => ∃ v0_ : Value, e = .returned (.tuple #[v0_, .int .i64 r2]) ∧ Kd.R (Kd.int .u8) 5 w' w.heap.size (fun _ => True) v0_ r1 ∧ Below w.heap.size w w' := by
  have HR0 := Aside0.mk hr0
  have HC0 := Aside0.mk hc0
  clear hr0 hc0
  have HR1 := Aside0.mk hr1
  have HC1 := Aside0.mk hc1
  clear hr1 hc1
  have HB := Aside0.mk (Below.refl w.heap.size w)
  have H : ((impl_rowOk.f l0 l1).bind fun t561 => ((impl_isDay.f (([a2] : List Int))).bind fun t565 => ((impl_codeOf.f t561 t565).bind fun t566 => (if t566 = 0 then ((impl_rowOn.f k l0 l1 a2).bind fun t567 => (some (t567, 0))) else (some (([] : List Int), t566)))))) = some (r1, r2) := h
  clear h
  replace H := Option.bind_eq_some_iff.mp H
  obtain ⟨t561, A40, H⟩ := H
  replace H : ((impl_isDay.f (([a2] : List Int))).bind fun t565 => ((impl_codeOf.f t561 t565).bind fun t566 => (if t566 = 0 then ((impl_rowOn.f k l0 l1 a2).bind fun t567 => (some (t567, 0))) else (some (([] : List Int), t566))))) = some (r1, r2) := H
  have A4 := Aside0.mk A40
  clear A40
  obtain ⟨y562, hy562⟩ : ∃ y_ : List Int, y_ = (([a2] : List Int)) := ⟨_, rfl⟩
  replace H : ((impl_isDay.f y562).bind fun t565 => ((impl_codeOf.f t561 t565).bind fun t566 => (if t566 = 0 then ((impl_rowOn.f k l0 l1 a2).bind fun t567 => (some (t567, 0))) else (some (([] : List Int), t566))))) = some (r1, r2) := by first | (rw [hy562]; with_reducible exact H) | (have H2_ := (Option.bind_some _ _).symm.trans H; rw [hy562]; with_reducible exact H2_) | (have H2_ := (Option.bind_some _ _).symm.trans H; with_reducible exact H2_) | with_reducible exact H | (rw [hy562]; exact H) | exact H
  have Ny562 := Aside0.mk hy562
  clear hy562
  replace H := Option.bind_eq_some_iff.mp H
  obtain ⟨t565, A50, H⟩ := H
  replace H : ((impl_codeOf.f t561 t565).bind fun t566 => (if t566 = 0 then ((impl_rowOn.f k l0 l1 a2).bind fun t567 => (some (t567, 0))) else (some (([] : List Int), t566)))) = some (r1, r2) := H
  have A5 := Aside0.mk A50
  clear A50
  replace H := Option.bind_eq_some_iff.mp H
  obtain ⟨t566, A60, H⟩ := H
  replace H : (if t566 = 0 then ((impl_rowOn.f k l0 l1 a2).bind fun t567 => (some (t567, 0))) else (some (([] : List Int), t566))) = some (r1, r2) := H
  have A6 := Aside0.mk A60
  clear A60
  by_cases c7 : t566 = 0
  · rw [if_pos c7] at H
    have c7b0 : (t566 == 0) = true := beq_iff_eq.mpr c7
    have c7b1 : (t566 != 0) = false := bne_eq_false_iff_eq.mpr c7
    clear c7
    replace H := Option.bind_eq_some_iff.mp H
    obtain ⟨t567, A80, H⟩ := H
    replace H : (some (t567, 0)) = some (r1, r2) := H
    have A8 := Aside0.mk A80
    clear A80
    simp only [Option.some.injEq, Prod.mk.injEq] at H
    obtain ⟨rfl, rfl⟩ := H
    go_enter Try.func40, Try.ntmps40
    go_wp2_with (first | ((with_reducible refine gate_callee (f := 68) rfl ?_); refine goesL_ (some 11) rfl rfl Try.func68 (by kernel_rfl) rfl #[.slice A0 l0.length c0, .slice A1 l1.length c1] rfl (by (try simp only [List.map_toArray, List.map_cons, List.map_nil]); first | done | rfl | (simp only [List.length_drop, List.length_take]; rfl)) ?_; (with_reducible refine (impl_rowOk.calls _ _ l0 _ _ l1 t561 _ ?side1 ?side2 ?side3 ?side4 A4.out).mono ?_); (case side1 => repeat (first | exact HR0.out | (with_reducible refine Kd.C_alloc ?_ _) | (with_reducible refine Kd.C_drewN ?_ _) | (with_reducible refine Kd.C_drew ?_))); (case side2 => exact HC0.out); (case side3 => repeat (first | exact HR1.out | (with_reducible refine Kd.C_alloc ?_ _) | (with_reducible refine Kd.C_drewN ?_ _) | (with_reducible refine Kd.C_drew ?_))); (case side4 => exact HC1.out); rintro e w9 ⟨rfl, hb⟩; refine ⟨_, rfl, ?_⟩; have n0_ := Aside0.mk (below_step (by repeat (first | (with_reducible first | exact HB.out | apply below_alloc | apply pw_below_drewN | apply below_drew1) | exact HB.out)) hb); clear HB; have HB := n0_; clear n0_; (try clear hb); (try clear hb2); (try clear hk); (try clear hi)) | ((with_reducible refine gate_dst (N := 13) rfl ?_); refine Kd.R_lit (Kd.int .i64) _ 2 ?hg (N := 13) ?hd (xs := ([a2] : List Int)) (inner := [.int .i64 a2]) (ok := fun _ => True) (okp := fun _ => True) ?hr ?hp (fun _ hk => hk) trivial (Below.refl _ _) (Nat.le_refl _) (by simp) ?_; (case hd => rfl); (case hg => rfl); (case hr => first | (go_simp; done) | (go_simp; rfl)); (case hp => exact (Reps.one (show Kd.M (Kd.int .i64) _ _ _ a2 [.int .i64 a2] from rfl) (Reps.none _ _))); intro v563 w10 ho11 hb hg_ hnew_; clear hg_ hnew_; (first | rw [← Ny562.out] at ho11 | (simp only [Int.reduceToNat] at ho11; rw [← Ny562.out] at ho11)); have n0_ := Aside0.mk (Kd.R_lower ho11 (below_size (by repeat (first | (with_reducible first | exact HB.out | apply below_alloc | apply pw_below_drewN | apply below_drew1) | exact HB.out)))); have n1_ := Aside0.mk (below_step (by repeat (first | (with_reducible first | exact HB.out | apply below_alloc | apply pw_below_drewN | apply below_drew1) | exact HB.out)) hb); clear HB; have HO564 := n0_; have HB := n1_; clear n0_ n1_; clear hb ho11; obtain ⟨Ao12, co12, eo12⟩ := Kd.R_slice HO564.out; subst eo12) | ((with_reducible refine gate_callee (f := 79) rfl ?_); refine goesL_ (some 14) rfl rfl Try.func79 (by kernel_rfl) rfl #[.slice Ao12 y562.length co12] rfl (by (try simp only [List.map_toArray, List.map_cons, List.map_nil]); first | done | rfl | (simp only [List.length_drop, List.length_take]; rfl)) ?_; (with_reducible refine (impl_isDay.calls _ _ y562 t565 _ ?side1 ?side2 A5.out).mono ?_); (case side1 => repeat (first | exact (Kd.R_reads' HO564.out).2.2 | (with_reducible refine Kd.C_alloc ?_ _) | (with_reducible refine Kd.C_drewN ?_ _) | (with_reducible refine Kd.C_drew ?_))); (case side2 => exact (Kd.R_reads' HO564.out).2.1); rintro e w13 ⟨rfl, hb⟩; refine ⟨_, rfl, ?_⟩; have n0_ := Aside0.mk (Kd.R_below (by (with_reducible repeat (first | apply Kd.R_alloc | apply Kd.R_drewN | apply Kd.R_drew)); exact HO564.out) hb); have n1_ := Aside0.mk (below_step (by repeat (first | (with_reducible first | exact HB.out | apply below_alloc | apply pw_below_drewN | apply below_drew1) | exact HB.out)) hb); clear HO564; clear HB; have HO564 := n0_; have HB := n1_; clear n0_ n1_; (try clear hb); (try clear hb2); (try clear hk); (try clear hi)) | ((with_reducible refine gate_callee (f := 67) rfl ?_); refine goesL_ (some 15) rfl rfl Try.func67 (by kernel_rfl) rfl #[.bool t561, .bool t565] rfl (by (try simp only [List.map_toArray, List.map_cons, List.map_nil]); first | done | rfl | (simp only [List.length_drop, List.length_take]; rfl)) ?_; (with_reducible refine (impl_codeOf.calls t561 t565 t566 _ A6.out).mono ?_); rintro e w' ⟨rfl, ⟨nd, rfl⟩⟩; refine ⟨_, rfl, ?_⟩) | ((with_reducible refine gate_callee (f := 71) rfl ?_); refine goesL_ (some 22) rfl rfl Try.func71 (by kernel_rfl) rfl #[.slice A0 l0.length c0, .slice A1 l1.length c1, .int .i64 a2] rfl (by (try simp only [List.map_toArray, List.map_cons, List.map_nil]); first | done | rfl | (simp only [List.length_drop, List.length_take]; rfl)) ?_; (with_reducible refine (impl_rowOn.calls k _ _ l0 _ _ l1 a2 t567 _ ?side1 ?side2 ?side3 ?side4 A8.out).mono ?_); (case side1 => repeat (first | exact (Kd.C_below HR0.out (by repeat (first | (with_reducible first | exact HB.out | apply below_alloc | apply pw_below_drewN | apply below_drew1) | exact HB.out))) | (with_reducible refine Kd.C_alloc ?_ _) | (with_reducible refine Kd.C_drewN ?_ _) | (with_reducible refine Kd.C_drew ?_))); (case side2 => exact HC0.out); (case side3 => repeat (first | exact (Kd.C_below HR1.out (by repeat (first | (with_reducible first | exact HB.out | apply below_alloc | apply pw_below_drewN | apply below_drew1) | exact HB.out))) | (with_reducible refine Kd.C_alloc ?_ _) | (with_reducible refine Kd.C_drewN ?_ _) | (with_reducible refine Kd.C_drew ?_))); (case side4 => exact HC1.out); rintro e w14 ⟨v568, rfl, ho0, hb⟩; refine ⟨_, rfl, ?_⟩; have n0_ := Aside0.mk (Kd.R_below (by (with_reducible repeat (first | apply Kd.R_alloc | apply Kd.R_drewN | apply Kd.R_drew)); exact HO564.out) hb); have n1_ := Aside0.mk (Kd.R_lower ho0 (below_size (by repeat (first | (with_reducible first | exact HB.out | apply below_alloc | apply pw_below_drewN | apply below_drew1) | exact HB.out)))); have n2_ := Aside0.mk (below_step (by repeat (first | (with_reducible first | exact HB.out | apply below_alloc | apply pw_below_drewN | apply below_drew1) | exact HB.out)) hb); clear HO564; clear HB; have HO564 := n0_; have HO569 := n1_; have HB := n2_; clear n0_ n1_ n2_; (try clear hb); (try clear hb2); (try clear hk); (try clear hi); (try clear ho0)))
    go_ret2
    exact ⟨_, by first | rfl | (simp [errW_none, errW_some] <;> rfl) | (simp [*, errW_none, errW_some] <;> rfl), by (with_reducible repeat (first | apply Kd.R_alloc | apply Kd.R_drewN | apply Kd.R_drew)); exact HO569.out, by repeat (first | (with_reducible first | exact HB.out | apply below_alloc | apply pw_below_drewN | apply below_drew1) | exact HB.out)⟩
  · rw [if_neg c7] at H
    have c7b0 : (t566 == 0) = false := beq_eq_false_iff_ne.mpr c7
    have c7b1 : (t566 != 0) = true := bne_iff_ne.mpr c7
    simp only [Option.some.injEq, Prod.mk.injEq] at H
    obtain ⟨rfl, rfl⟩ := H
    go_enter Try.func40, Try.ntmps40
    go_wp2_with (first | ((with_reducible refine gate_callee (f := 68) rfl ?_); refine goesL_ (some 11) rfl rfl Try.func68 (by kernel_rfl) rfl #[.slice A0 l0.length c0, .slice A1 l1.length c1] rfl (by (try simp only [List.map_toArray, List.map_cons, List.map_nil]); first | done | rfl | (simp only [List.length_drop, List.length_take]; rfl)) ?_; (with_reducible refine (impl_rowOk.calls _ _ l0 _ _ l1 t561 _ ?side1 ?side2 ?side3 ?side4 A4.out).mono ?_); (case side1 => repeat (first | exact HR0.out | (with_reducible refine Kd.C_alloc ?_ _) | (with_reducible refine Kd.C_drewN ?_ _) | (with_reducible refine Kd.C_drew ?_))); (case side2 => exact HC0.out); (case side3 => repeat (first | exact HR1.out | (with_reducible refine Kd.C_alloc ?_ _) | (with_reducible refine Kd.C_drewN ?_ _) | (with_reducible refine Kd.C_drew ?_))); (case side4 => exact HC1.out); rintro e w15 ⟨rfl, hb⟩; refine ⟨_, rfl, ?_⟩; have n0_ := Aside0.mk (below_step (by repeat (first | (with_reducible first | exact HB.out | apply below_alloc | apply pw_below_drewN | apply below_drew1) | exact HB.out)) hb); clear HB; have HB := n0_; clear n0_; (try clear hb); (try clear hb2); (try clear hk); (try clear hi)) | ((with_reducible refine gate_dst (N := 13) rfl ?_); refine Kd.R_lit (Kd.int .i64) _ 2 ?hg (N := 13) ?hd (xs := ([a2] : List Int)) (inner := [.int .i64 a2]) (ok := fun _ => True) (okp := fun _ => True) ?hr ?hp (fun _ hk => hk) trivial (Below.refl _ _) (Nat.le_refl _) (by simp) ?_; (case hd => rfl); (case hg => rfl); (case hr => first | (go_simp; done) | (go_simp; rfl)); (case hp => exact (Reps.one (show Kd.M (Kd.int .i64) _ _ _ a2 [.int .i64 a2] from rfl) (Reps.none _ _))); intro v563 w16 ho17 hb hg_ hnew_; clear hg_ hnew_; (first | rw [← Ny562.out] at ho17 | (simp only [Int.reduceToNat] at ho17; rw [← Ny562.out] at ho17)); have n0_ := Aside0.mk (Kd.R_lower ho17 (below_size (by repeat (first | (with_reducible first | exact HB.out | apply below_alloc | apply pw_below_drewN | apply below_drew1) | exact HB.out)))); have n1_ := Aside0.mk (below_step (by repeat (first | (with_reducible first | exact HB.out | apply below_alloc | apply pw_below_drewN | apply below_drew1) | exact HB.out)) hb); clear HB; have HO564 := n0_; have HB := n1_; clear n0_ n1_; clear hb ho17; obtain ⟨Ao18, co18, eo18⟩ := Kd.R_slice HO564.out; subst eo18) | ((with_reducible refine gate_callee (f := 79) rfl ?_); refine goesL_ (some 14) rfl rfl Try.func79 (by kernel_rfl) rfl #[.slice Ao18 y562.length co18] rfl (by (try simp only [List.map_toArray, List.map_cons, List.map_nil]); first | done | rfl | (simp only [List.length_drop, List.length_take]; rfl)) ?_; (with_reducible refine (impl_isDay.calls _ _ y562 t565 _ ?side1 ?side2 A5.out).mono ?_); (case side1 => repeat (first | exact (Kd.R_reads' HO564.out).2.2 | (with_reducible refine Kd.C_alloc ?_ _) | (with_reducible refine Kd.C_drewN ?_ _) | (with_reducible refine Kd.C_drew ?_))); (case side2 => exact (Kd.R_reads' HO564.out).2.1); rintro e w19 ⟨rfl, hb⟩; refine ⟨_, rfl, ?_⟩; have n0_ := Aside0.mk (Kd.R_below (by (with_reducible repeat (first | apply Kd.R_alloc | apply Kd.R_drewN | apply Kd.R_drew)); exact HO564.out) hb); have n1_ := Aside0.mk (below_step (by repeat (first | (with_reducible first | exact HB.out | apply below_alloc | apply pw_below_drewN | apply below_drew1) | exact HB.out)) hb); clear HO564; clear HB; have HO564 := n0_; have HB := n1_; clear n0_ n1_; (try clear hb); (try clear hb2); (try clear hk); (try clear hi)) | ((with_reducible refine gate_callee (f := 67) rfl ?_); refine goesL_ (some 15) rfl rfl Try.func67 (by kernel_rfl) rfl #[.bool t561, .bool t565] rfl (by (try simp only [List.map_toArray, List.map_cons, List.map_nil]); first | done | rfl | (simp only [List.length_drop, List.length_take]; rfl)) ?_; (with_reducible refine (impl_codeOf.calls t561 t565 t566 _ A6.out).mono ?_); rintro e w' ⟨rfl, ⟨nd, rfl⟩⟩; refine ⟨_, rfl, ?_⟩))
    go_ret2
    exact ⟨_, by first | rfl | (simp [errW_none, errW_some] <;> rfl) | (simp [*, errW_none, errW_some] <;> rfl), by first | exact Kd.R_nil _ _ _ _ _ | exact Kd.N_nil _ _ _ _ _ | exact Kd.V_nil _ _ _ _ _ | exact Kd.Q_nil _ _ _ _ _ | exact Kd.S_nil _ _ _ _ _, by repeat (first | (with_reducible first | exact HB.out | apply below_alloc | apply pw_below_drewN | apply below_drew1) | exact HB.out)⟩
end Go.Proofs.Ytmheflciiodhdaa.P
/- What is drawn is valid; rows on days by both; walks on days. -/
namespace Go.Proofs.Ytmheflciiodhdaa.P
open Go.RowKit Go.Proofs.YtmheflciiodhdaaW.PrintWords Go.Proofs.YtmheflciiodhdaaW.PrintLast Go.Proofs.YtmheflciiodhdaaW.PrintMore
set_option linter.unusedVariables false
/-- A source's bytes. -/
structure SrcOk (c : List Int) : Prop where
  hb : ∀ y ∈ c, 0 ≤ y ∧ y ≤ 255
  hl : c.length ≤ 140737488351232
theorem u64_bd (e : Int) : 0 ≤ IntKind.u64.wrap e ∧ IntKind.u64.wrap e ≤ 18446744073709551615 := by
  simp [IntKind.wrap, IntKind.signed, IntKind.bits]
  omega
theorem and255 (e : Int) (h0 : 0 ≤ e) (h1 : e ≤ 18446744073709551615) : 0 ≤ Go.bits .and .u64 e 255 ∧ Go.bits .and .u64 e 255 ≤ 255 := by
  have h := bits_and_u64_nat e.toNat 255 (by omega) (by omega)
  rw [Int.toNat_of_nonneg h0] at h
  have h2 : e.toNat &&& 255 ≤ 255 := Nat.and_le_right
  rw [show ((255 : Nat) : Int) = 255 from rfl] at h
  rw [h]
  omega
theorem rd_bd {c : List Int} {lo hi : Int} (h : ∀ y ∈ c, lo ≤ y ∧ y ≤ hi) {i : Int} (h0 : 0 ≤ i) (h1 : i < c.length) : lo ≤ rd c i ∧ rd c i ≤ hi := by
  obtain ⟨n, rfl⟩ : ∃ n : Nat, i = n := ⟨i.toNat, by omega⟩
  rw [rd_lt (by omega)]
  exact h _ (List.getElem_mem _)
theorem next_ok {c : List Int} (hc : SrcOk c) {a : Int} (s : Int) (h0 : 0 ≤ a) (h1 : a ≤ 1000000000000000) : ∃ x s', spec_l00Src_next.f c a s = some (x, a + 1, s') ∧ 0 ≤ x ∧ x ≤ 255 := by
  have hl := hc.hl
  have key : ∀ e : Int, 0 ≤ wrap64 (Go.bits .and .u64 (IntKind.u64.wrap e / 1099511627776) 255) ∧ wrap64 (Go.bits .and .u64 (IntKind.u64.wrap e / 1099511627776) 255) ≤ 255 := fun e => by
    have b := u64_bd e
    have := and255 (IntKind.u64.wrap e / 1099511627776) (by omega) (by omega)
    rw [w64 (by omega) (by omega)]
    exact this
  unfold spec_l00Src_next.f
  rw [w64 (x := a + 1) (by omega) (by omega)]
  by_cases h : a < (c.length : Int)
  · have hb := rd_bd hc.hb h0 h
    rw [if_pos h, if_pos h0, if_pos (by omega)]
    exact ⟨_, _, rfl, by rw [w64 (by omega) (by omega)]; exact hb.1, by rw [w64 (by omega) (by omega)]; exact hb.2⟩
  · rw [if_neg h, if_neg (by omega)]
    exact ⟨_, _, rfl, key _⟩
theorem pick_ok {c : List Int} (hc : SrcOk c) {a : Int} (s n : Int) (h0 : 0 ≤ a) (h1 : a ≤ 999999999999999) : ∃ x a' s', spec_l00Src_pick.f c a s n = some (x, a', s') ∧ 0 ≤ x ∧ (1 ≤ n → x < n) ∧ (n ≤ 1 → x = 0) ∧ a ≤ a' ∧ a' ≤ a + 2 := by
  unfold spec_l00Src_pick.f
  by_cases hn : n ≤ 1
  · rw [if_pos hn]; exact ⟨0, a, s, rfl, by omega, by omega, by omega, by omega, by omega⟩
  · rw [if_neg hn]
    obtain ⟨x, s', he, hx0, hx1⟩ := next_ok hc s h0 (by omega)
    rw [he, Option.bind_some]
    by_cases h2 : n > 200
    · rw [if_pos h2]
      obtain ⟨y, s'', he2, hy0, hy1⟩ := next_ok hc (a := a + 1) s' (by omega) (by omega)
      simp only
      rw [he2, Option.bind_some, if_neg (by omega)]
      have e1 : wrap64 (wrap64 (x * 256) + y) = x * 256 + y := by rw [w64 (x := x * 256) (by omega) (by omega), w64 (by omega) (by omega)]
      have m0 := Int.emod_nonneg (x * 256 + y) (show n ≠ 0 by omega)
      have m1 := Int.emod_lt_of_pos (x * 256 + y) (show 0 < n by omega)
      have e2 : Int.tmod (x * 256 + y) n = (x * 256 + y) % n := tmod_nn (by omega)
      refine ⟨_, _, _, rfl, ?_, ?_, ?_, ?_, ?_⟩ <;> simp only [e1, e2] <;> omega
    · rw [if_neg h2, if_neg (by omega)]
      have m0 := Int.emod_nonneg x (show n ≠ 0 by omega)
      have m1 := Int.emod_lt_of_pos x (show 0 < n by omega)
      have e2 : Int.tmod x n = x % n := tmod_nn (by omega)
      refine ⟨_, _, _, rfl, ?_, ?_, ?_, ?_, ?_⟩ <;> simp only [e2] <;> omega
theorem P6Pick_ok {c : List Int} (hc : SrcOk c) (n : Int) : ∃ x, spec_P6Pick.f c n = some x ∧ 0 ≤ x ∧ (1 ≤ n → x < n) := by
  obtain ⟨x, a', s', he, h0, h1, -, -, -⟩ := pick_ok hc (a := 0) 0 n (by omega) (by omega)
  exact ⟨x, by simp only [spec_P6Pick.f, spec_l00From.f, Option.bind_some, he], h0, h1⟩
theorem drawnRow_ev {c : List Int} (hc : SrcOk c) : ∃ r, Ev (fun k => spec_P6Row.f k c) r ∧ 1 ≤ r.length ∧ r.length ≤ 7 ∧ ∀ y ∈ r, 0 ≤ y ∧ y ≤ 7 := by
  have loop : ∀ (n : Nat) (acc : List Int) (p : Bool) (a s : Int), n ≤ 7 → acc.length + n ≤ 7 → 0 ≤ a → a + 2 * n ≤ 1000 → (∀ y ∈ acc, 0 ≤ y ∧ y ≤ 7) → ∃ r a' s', Ev (fun k => spec_l05Drawn.l0 k acc p n c a s) (r, a', s') ∧ r.length = acc.length + n ∧ ∀ y ∈ r, 0 ≤ y ∧ y ≤ 7 := by
    intro n
    induction n with
    | zero => exact fun acc p a s _ _ _ _ h => ⟨acc, a, s, Ev.one (fun k => by simp only [spec_l05Drawn.l0]; rw [if_neg (by omega)]), rfl, h⟩
    | succ n ih =>
      intro acc p a s hn hl h0 h1 hacc
      obtain ⟨x, a', s', he, hx0, hx1, -, ha, ha'⟩ := pick_ok hc s 8 h0 (by omega)
      have hx := hx1 (by omega)
      cases p with
      | true =>
        obtain ⟨r, a2, s2, hev, hrl, hr⟩ := ih (acc ++ [0]) true a' s' (by omega) (by simp; omega) (by omega) (by omega) (fun y hy => by
          rcases List.mem_append.mp hy with h | h
          · exact hacc y h
          · simp at h; omega)
        refine ⟨r, a2, s2, Ev.step (fun k => ?_) hev, by simp at hrl; omega, hr⟩
        simp only [spec_l05Drawn.l0]
        rw [if_pos (by omega), he, Option.bind_some, if_pos trivial, if_pos (by omega), w64 (by omega) (by omega), show ((n + 1 : Nat) : Int) - 1 = n by omega]
      | false =>
        obtain ⟨r, a2, s2, hev, hrl, hr⟩ := ih (acc ++ [x % 256]) false a' s' (by omega) (by simp; omega) (by omega) (by omega) (fun y hy => by
          rcases List.mem_append.mp hy with h | h
          · exact hacc y h
          · simp at h; omega)
        refine ⟨r, a2, s2, Ev.step (fun k => ?_) hev, by simp at hrl; omega, hr⟩
        simp only [spec_l05Drawn.l0]
        rw [if_pos (by omega), he, Option.bind_some, if_neg (by simp), if_pos (by omega), w64 (by omega) (by omega), show ((n + 1 : Nat) : Int) - 1 = n by omega]
  obtain ⟨x1, a1, s1, he1, -, -, -, ha1, hb1⟩ := pick_ok hc (a := 0) 0 2 (by omega) (by omega)
  obtain ⟨x2, a2, s2, he2, hx0, hx1, -, ha2, hb2⟩ := pick_ok hc (a := a1) s1 7 (by omega) (by omega)
  have hx := hx1 (by omega)
  obtain ⟨n, hn⟩ : ∃ n : Nat, (1 + x2 : Int) = n := ⟨(1 + x2).toNat, by omega⟩
  obtain ⟨r, a3, s3, hev, hrl, hr⟩ := loop n [] (x1 == 0) a2 s2 (by omega) (by simp; omega) (by omega) (by omega) (by simp)
  refine ⟨r, ?_, by simp at hrl; omega, by simp at hrl; omega, hr⟩
  refine Ev.congr (fun k => ?_) (Ev.bind hev (f := fun _ t => some t.1) (Ev.pure _))
  simp only [spec_P6Row.f, spec_l00From.f, Option.bind_some, spec_l05Drawn.f, spec_l00Src_one.f, he1, he2]
  rw [w64 (by omega) (by omega), hn]
/-- A walker as it is drawn. -/
structure Drn (x : S38) : Prop where
  h0 : 0 ≤ x.f0 ∧ x.f0 ≤ 4
  h1 : 1 ≤ x.f1 ∧ x.f1 ≤ 6
  h4 : 1 ≤ x.f4 ∧ x.f4 ≤ 6
theorem drawnOne_ok {c : List Int} (hc : SrcOk c) {a : Int} (s : Int) {n : Int} (hn : 1 ≤ n) (hn1 : n ≤ 60) (h0 : 0 ≤ a) (h1 : a ≤ 100000) :
    ∃ x : S38, ∃ a' s', spec_l05One.f c a s n = some (x.f0, x.f1, x.f2, x.f3, x.f4, x.f5, a', s') ∧ WOk n x ∧ Drn x ∧ a ≤ a' ∧ a' ≤ a + 12 := by
  obtain ⟨x1, a1, s1, e1, p1, q1, -, u1, v1⟩ := pick_ok hc (a := a) s 5 (by omega) (by omega)
  obtain ⟨x2, a2, s2, e2, p2, q2, -, u2, v2⟩ := pick_ok hc (a := a1) s1 6 (by omega) (by omega)
  obtain ⟨x3, a3, s3, e3, p3, q3, -, u3, v3⟩ := pick_ok hc (a := a2) s2 n (by omega) (by omega)
  obtain ⟨x4, a4, s4, e4, p4, q4, -, u4, v4⟩ := pick_ok hc (a := a3) s3 5 (by omega) (by omega)
  obtain ⟨x5, a5, s5, e5, p5, q5, -, u5, v5⟩ := pick_ok hc (a := a4) s4 6 (by omega) (by omega)
  obtain ⟨x6, a6, s6, e6, p6, q6, -, u6, v6⟩ := pick_ok hc (a := a5) s5 15 (by omega) (by omega)
  replace q1 := q1 (by omega)
  replace q2 := q2 (by omega)
  replace q3 := q3 (by omega)
  replace q4 := q4 (by omega)
  replace q5 := q5 (by omega)
  replace q6 := q6 (by omega)
  have emax : spec_l00Max.f 1 n = some n := by
    unfold spec_l00Max.f
    by_cases h : (1 : Int) > n
    · omega
    · rw [if_neg h]
  refine ⟨⟨x1, 1 + x2, x3, x4, 1 + x5, x6 - 7⟩, a6, s6, ?_, ⟨⟨?_, ?_⟩, ⟨?_, ?_⟩, ⟨?_, ?_⟩, ⟨?_, ?_⟩, ⟨?_, ?_⟩, ⟨?_, ?_⟩⟩, ⟨⟨?_, ?_⟩, ⟨?_, ?_⟩, ⟨?_, ?_⟩⟩, ?_, ?_⟩
  · simp only [spec_l05One.f, e1, e2, emax, e3, e4, e5, e6, Option.bind_some]
    rw [w64 (x := 1 + x2) (by omega) (by omega), w64 (x := 1 + x5) (by omega) (by omega), w64 (x := x6 - 7) (by omega) (by omega), w16 (x := x1) (by omega) (by omega), w16 (x := 1 + x2) (by omega) (by omega), w16 (x := x3) (by omega) (by omega), w16 (x := x4) (by omega) (by omega), w16 (x := 1 + x5) (by omega) (by omega), w8 (x := x6 - 7) (by omega) (by omega)]
  all_goals (try simp only) <;> omega
theorem drawnWalkers_ev {c : List Int} (hc : SrcOk c) {n : Int} (hn : 1 ≤ n) (hn1 : n ≤ 60) : ∃ ws, Ev (fun k => spec_P6Walkers.f k c n) ws ∧ ws.length ≤ 3 ∧ (∀ x ∈ ws, WOk n x) ∧ ∀ x ∈ ws, Drn x := by
  have loop : ∀ (m : Nat) (acc : List S38) (a s : Int), acc.length + m ≤ 3 → 0 ≤ a → a + 12 * m ≤ 1000 → (∀ x ∈ acc, WOk n x) → (∀ x ∈ acc, Drn x) → ∃ ws, Ev (fun k => spec_P6Walkers.l0 k n acc m c a s) ws ∧ ws.length ≤ 3 ∧ (∀ x ∈ ws, WOk n x) ∧ ∀ x ∈ ws, Drn x := by
    intro m
    induction m with
    | zero => exact fun acc a s hl _ _ h h' => ⟨acc, Ev.one (fun k => by simp only [spec_P6Walkers.l0]; rw [if_neg (by omega)]), by omega, h, h'⟩
    | succ m ih =>
      intro acc a s hl h0 h1 hacc hacc'
      obtain ⟨x, a', s', he, hx, hx', ha, ha'⟩ := drawnOne_ok hc s hn hn1 h0 (by omega)
      obtain ⟨ws, hev, h2, h3, h4⟩ := ih (acc ++ [x]) a' s' (by simp; omega) (by omega) (by omega) (fun y hy => by
          rcases List.mem_append.mp hy with h | h
          · exact hacc y h
          · simp at h; rw [h]; exact hx) (fun y hy => by
          rcases List.mem_append.mp hy with h | h
          · exact hacc' y h
          · simp at h; rw [h]; exact hx')
      refine ⟨ws, Ev.step (fun k => ?_) hev, h2, h3, h4⟩
      simp only [spec_P6Walkers.l0]
      rw [if_pos (by omega), he, Option.bind_some, if_pos (by omega), w64 (by omega) (by omega), show ((m + 1 : Nat) : Int) - 1 = m by omega]
  obtain ⟨x, a', s', he, h0, h1, -, ha, hb⟩ := pick_ok hc (a := 0) 0 4 (by omega) (by omega)
  replace h1 := h1 (by omega)
  obtain ⟨m, rfl⟩ : ∃ m : Nat, x = m := ⟨x.toNat, by omega⟩
  obtain ⟨ws, hev, hw⟩ := loop m [] a' s' (by simp; omega) (by omega) (by omega) (by simp) (by simp)
  refine ⟨ws, Ev.congr (fun k => ?_) hev, hw⟩
  simp only [spec_P6Walkers.f, spec_l00From.f, Option.bind_some, he]
/-- A row and walkers that are valid. -/
structure RowOk (r : List Int) (ws : List S38) : Prop where
  hb : 1 ≤ r.length
  hb1 : r.length ≤ 60
  hr : ∀ y ∈ r, 0 ≤ y ∧ y ≤ 7
  hw : ∀ x ∈ ws, WOk r.length x
  h8 : ws.length ≤ 8
theorem validRow_of {r : List Int} (hb : 1 ≤ r.length) (hb1 : r.length ≤ 60) (hr : ∀ y ∈ r, 0 ≤ y ∧ y ≤ 7) : validRow r = true := by
  simp only [validRow, Bool.and_eq_true, Bool.not_eq_true', List.any_eq_false, decide_eq_true_eq]
  refine ⟨inR_iff.mpr ⟨by omega, by omega⟩, fun x hx => ?_⟩
  have := hr x hx
  omega
theorem badW_of {b : Int} {x : S38} (hb : b ≤ 60) (h : WOk b x) : badW b x = false := by
  obtain ⟨h0, h1, h2, h3, h4, h5⟩ := h
  simp only [badW, Bool.or_eq_false_iff, Bool.not_eq_false']
  rw [w64 (x := x.f0) (by omega) (by omega), w64 (x := x.f1) (by omega) (by omega), w64 (x := x.f2) (by omega) (by omega), w64 (x := x.f3) (by omega) (by omega), w64 (x := x.f4) (by omega) (by omega), w64 (x := x.f5) (by omega) (by omega)]
  exact ⟨⟨⟨⟨⟨inR_iff.mpr h0, inR_iff.mpr h1⟩, inR_iff.mpr h2⟩, inR_iff.mpr h3⟩, inR_iff.mpr h4⟩, inR_iff.mpr h5⟩
theorem validWalkers_of {b : Int} {ws : List S38} (hb : 1 ≤ b) (hb1 : b ≤ 60) (hw : ∀ x ∈ ws, WOk b x) (h8 : ws.length ≤ 8) : validWalkers b ws = true := by
  simp only [validWalkers, Bool.and_eq_true, Bool.not_eq_true', List.any_eq_false, decide_eq_true_eq]
  refine ⟨⟨inR_iff.mpr ⟨hb, hb1⟩, by omega⟩, fun x hx => ?_⟩
  rw [badW_of hb1 (hw x hx)]
  simp
theorem RowOk.B {r : List Int} {ws : List S38} (h : RowOk r ws) : rowOkB r ws = true := by
  simp only [rowOkB, Bool.and_eq_true]
  exact ⟨validRow_of h.hb h.hb1 h.hr, validWalkers_of (by have := h.hb; omega) (by have := h.hb1; omega) h.hw h.h8⟩
theorem RowOk.wt {b : Int} {ws : List S38} (hb : b ≤ 60) (h : ∀ x ∈ ws, WOk b x) : ∀ x ∈ ws, WT x := fun x hx => by
  obtain ⟨h0, h1, h2, h3, h4, h5⟩ := h x hx
  exact ⟨by omega, by omega, by omega, by omega, by omega, by omega⟩
theorem codeB_tt : codeB true true = 0 := rfl
theorem l05Day_ok {d : Int} (h0 : 0 ≤ d) (h1 : d ≤ 10000) : spec_l05Day.f d = some true := by
  simp only [spec_l05Day.f, l00In_inR, Option.bind_some]
  rw [inR_iff.mpr ⟨h0, h1⟩]
theorem specRowOn_ok {r : List Int} {ws : List S38} (h : RowOk r ws) {d : Int} (h0 : 0 ≤ d) (h1 : d ≤ 10000) : Ev (fun k => spec_RowOn.f k r ws d) (rowBy (fun x => untilZ x d) ws r, 0) := by
  have hb1 := h.hb1
  have h8 := h.h8
  have hrow := specRow_ev r ws true (by omega) (by omega)
  rw [h.B, codeB_tt] at hrow
  refine Ev.congr (fun k => ?_) (Ev.bind hrow (f := fun k t => if t = 0 then (spec_l05Whole.f k r ws d).bind fun t => some (t, (0 : Int)) else some (([] : List Int), t)) ?_)
  · simp only [spec_RowOn.f, l05Day_ok h0 h1, Option.bind_some]
  · simp only [if_true]
    exact Ev.bind (specWhole_ev h.hb h.hb1 h.hr h.hw h.h8 h0 h1) (Ev.pure _)
theorem isDay_ok {d : Int} (h0 : 0 ≤ d) (h1 : d ≤ 10000) : impl_isDay.f [d] = some true := by
  simp only [impl_isDay.f, impl_allWithin.f, Option.bind_some, List.all_cons, List.all_nil, Bool.and_true]
  rw [inR_iff.mpr ⟨h0, h1⟩]
theorem specDayOf_ok {r : List Int} {ws : List S38} (h : RowOk r ws) {d : Int} (h0 : 0 ≤ d) (h1 : d ≤ 10000) : Ev (fun k => spec_DayOf.f k r ws d) (rowBy (fun x => onZ x d) ws r, 0) := by
  have hb1 := h.hb1
  have h8 := h.h8
  have hrow := specRow_ev r ws true (by omega) (by omega)
  rw [h.B, codeB_tt] at hrow
  refine Ev.congr (fun k => ?_) (Ev.bind hrow (f := fun k t => if t = 0 then (spec_l05Behind.f k r ws d).bind fun t => some (t, (0 : Int)) else some (([] : List Int), t)) ?_)
  · simp only [spec_DayOf.f, l05Day_ok h0 h1, Option.bind_some]
  · simp only [if_true]
    exact Ev.bind (specBehind_ev h.hb h.hb1 h.hr h.hw h.h8 h0 h1) (Ev.pure _)
theorem until_neg {x : S38} {b : Int} (hx : WOk b x) : untilZ x (-1) = 0 := by
  have := hx.h0
  simp only [untilZ]
  rw [if_pos (by omega)]
theorem untilI_eq {b : Int} {x : S38} (hx : WOk b x) {d : Int} (h0 : -1 ≤ d) (h1 : d ≤ 10000) : impl_Walker_until.f x.f0 x.f1 x.f2 x.f3 x.f4 x.f5 d = some (untilZ x d) := by
  by_cases h : d < 0
  · obtain rfl : d = -1 := by omega
    have := hx.h0
    unfold impl_Walker_until.f
    rw [until_neg hx, w64 (x := x.f0) (by omega) (by omega), if_pos (by omega)]
  · have := untilO_eq hx (d := d) (by omega) h1
    exact this
theorem untilZ_bd' {b : Int} {x : S38} (hx : WOk b x) {d : Int} (h0 : -1 ≤ d) (h1 : d ≤ 10000) : 0 ≤ untilZ x d ∧ untilZ x d ≤ 10001 := by
  by_cases h : d < 0
  · obtain rfl : d = -1 := by omega
    rw [until_neg hx]; omega
  · exact untilZ_bd hx (by omega) h1
theorem betweenO_eq {b : Int} {x : S38} (hx : WOk b x) {a d : Int} (h0 : 0 ≤ a) (h1 : d ≤ 10000) (ha : a ≤ 10001) (hd : 0 ≤ d) : betweenO x a d = some (untilZ x d - untilZ x (a - 1)) := by
  have b1 := untilZ_bd' hx (d := d) (by omega) h1
  have b2 := untilZ_bd' hx (d := a - 1) (by omega) (by omega)
  unfold betweenO impl_Walker_between.f
  rw [w64 (x := a - 1) (by omega) (by omega), untilI_eq hx (by omega) h1, untilI_eq hx (by omega) (by omega)]
  simp only [Option.bind_some]
  rw [w64 (by omega) (by omega)]
theorem implDayOf_ok {r : List Int} {ws : List S38} (h : RowOk r ws) {d : Int} (h0 : 0 ≤ d) (h1 : d ≤ 10000) : Ev (fun k => impl_DayOf.f k r ws d) (rowBy (fun x => onZ x d) ws r, 0) := by
  have hu : ∀ x ∈ ws, betweenO x d d = some (onZ x d) := fun x hx => by
    rw [betweenO_eq (h.hw x hx) h0 h1 (by omega) h0]
    have := until_succ (h.hw x hx) (d - 1)
    rw [show d - 1 + 1 = d by omega] at this
    congr 1; omega
  have ht : ∀ x ∈ ws, betweenT x d d = onZ x d := fun x hx => by unfold betweenT; rw [hu x hx]; rfl
  have key := walked_ev h.hb h.hb1 (fun y hy => by have := h.hr y hy; omega) (fun x => betweenT x d d) ws h.h8 h.hw (fun x hx => by
    simp only [ht x hx, onZ]; split <;> omega)
  rw [rowBy_cong (fun x => betweenT x d d) (fun x => onZ x d) ws r ht] at key
  refine Ev.congr (fun k => ?_) (Ev.bind key (f := fun _ r => some (r, (0 : Int))) (Ev.pure _))
  unfold impl_DayOf.f
  rw [h.B, inR_iff.mpr ⟨h0, h1⟩, codeB_tt, if_pos rfl, if_pos (List.all_eq_true.mpr fun x hx => by rw [hu x hx]; rfl)]
theorem implWalksOn_ok {b : Int} (hb : 1 ≤ b) (hb1 : b ≤ 60) {x : S38} (hx : WOk b x) {d : Int} (h0 : 0 ≤ d) (h1 : d ≤ 10000) : impl_WalksOn.f b x.f0 x.f1 x.f2 x.f3 x.f4 x.f5 d = some (onB x d, 0) := by
  have hv : validWalkers b [x] = true := validWalkers_of hb hb1 (by simpa using hx) (by simp)
  simp only [impl_WalksOn.f, impl_ValidWalkers.f, Option.bind_some, isDay_ok h0 h1]
  rw [show (⟨x.f0, x.f1, x.f2, x.f3, x.f4, x.f5⟩ : S38) = x from rfl, hv]
  simp only [impl_codeOf.f, if_true, Option.bind_some, implComes_eq hx h0 h1]
end Go.Proofs.Ytmheflciiodhdaa.P
-- Written by wip/tools/mkprint.py of this repo, over the kit's print, out of the translation; Lean checks it.
namespace Go.Proofs.Ytmheflciiodhdaa.P
open Go.RowKit Go.Proofs.YtmheflciiodhdaaW.PrintWords Go.Proofs.YtmheflciiodhdaaW.PrintLast Go.Proofs.YtmheflciiodhdaaW.PrintMore
attribute [local go_sem] max2_int min2_int max_two min_two max_three min_three max_four min_four   -- for this text's walks alone
set_option linter.unusedVariables false
set_option linter.unusedSimpArgs false
/-! ### laws_f6big: function 8 -/
def laws_f6big.f (l0 : List Int) : Option (Bool) := some (decide ((l0.length : Int) > 4096))
set_option maxHeartbeats 8000000 in
set_option maxRecDepth 100000 in
theorem laws_f6big.calls (A0 : Option Addr) (c0 : Nat) (l0 : List Int) (r : Bool) (w : World) (hr0 : Kd.C (Kd.int .u8) w A0 l0.length l0) (hc0 : l0.length ≤ c0) (h : laws_f6big.f l0 = some r) :
    Calls Try.prog 8 #[.slice A0 l0.length c0] w fun e w' => e = .returned (.bool r) ∧ Drawn0 w w' := by
  have HR0 := Aside0.mk hr0
  have HC0 := Aside0.mk hc0
  clear hr0 hc0
  have H : (some (decide ((l0.length : Int) > 4096))) = some r := h
  clear h
  obtain rfl := Option.some.inj H
  go_enter Try.func8, Try.ntmps8
  go_wp2
  go_ret
  exact ⟨by first | rfl | (simp; done) | (simp [*]; done), by repeat (first | exact Drawn0.refl _ | apply Drawn0.step)⟩
end Go.Proofs.Ytmheflciiodhdaa.P
-- Written by wip/tools/mkprint.py of this repo, over the kit's print, out of the translation; Lean checks it.
namespace Go.Proofs.Ytmheflciiodhdaa.P
open Go.RowKit Go.Proofs.YtmheflciiodhdaaW.PrintWords Go.Proofs.YtmheflciiodhdaaW.PrintLast Go.Proofs.YtmheflciiodhdaaW.PrintMore
attribute [local go_sem] max2_int min2_int max_two min_two max_three min_three max_four min_four   -- for this text's walks alone
set_option linter.unusedVariables false
set_option linter.unusedSimpArgs false
/-! ### spec_HasPair: function 17 -/
def spec_HasPair.l0 : Nat → List (S40) → Int → Int → Int → Option (Bool)
  | 0, _, _, _, _ => none
  | k + 1, x0, x5, x279000, x279001 => if x5 < (x0.length : Int) then (if 0 ≤ x5 then (if ((rd_T40 x0 x5).f0) = x279000 then (if ((rd_T40 x0 x5).f1) = x279001 then (some true) else (spec_HasPair.l0 k x0 (wrap64 (x5 + 1)) x279000 x279001)) else (spec_HasPair.l0 k x0 (wrap64 (x5 + 1)) x279000 x279001)) else (none)) else (some false)
def spec_HasPair.f (k : Nat) (l0 : List (S40)) (a1_0 : Int) (a1_1 : Int) : Option (Bool) := spec_HasPair.l0 k l0 0 a1_0 a1_1
theorem spec_HasPair.mono_l : ∀ k, (∀ y0 y1 y2 y3, LeO (spec_HasPair.l0 k y0 y1 y2 y3) (spec_HasPair.l0 (k + 1) y0 y1 y2 y3))
  | 0 => fun _ _ _ _ r h => by simp [spec_HasPair.l0] at h
  | k + 1 => by
    have ih0 := spec_HasPair.mono_l k
    · intro y0 y1 y2 y3
      unfold spec_HasPair.l0
      repeat' first
      | (with_reducible exact ih0 _ _ _ _)
      | (with_reducible exact LeO.refl _)
      | (with_reducible exact LeO.none _)
      | (with_reducible refine LeO.ite ?_ ?_)
      | (with_reducible refine LeO.bind ?_ (fun _ => ?_))
      | exact ih0 _ _ _ _
      | exact LeO.none _
      | refine LeO.ite ?_ ?_
      | refine LeO.bind ?_ (fun _ => ?_)
theorem spec_HasPair.mono : ∀ a0 a1 a2 k, LeO (spec_HasPair.f k a0 a1 a2) (spec_HasPair.f (k + 1) a0 a1 a2) := by
  intro a0 a1 a2 k
  have ih0 := spec_HasPair.mono_l k
  unfold spec_HasPair.f
  repeat' first
      | (with_reducible exact ih0 _ _ _ _)
      | (with_reducible exact LeO.refl _)
      | (with_reducible exact LeO.none _)
      | (with_reducible refine LeO.ite ?_ ?_)
      | (with_reducible refine LeO.bind ?_ (fun _ => ?_))
      | exact ih0 _ _ _ _
      | exact LeO.none _
      | refine LeO.ite ?_ ?_
      | refine LeO.bind ?_ (fun _ => ?_)
set_option maxHeartbeats 8000000 in
set_option maxRecDepth 100000 in
theorem spec_HasPair.calls (k : Nat) (A0 : Option Addr) (c0 : Nat) (l0 : List (S40)) (a1_0 : Int) (a1_1 : Int) (r : Bool) (w : World) (hr0 : Kd.C k40 w A0 l0.length l0) (hc0 : l0.length ≤ c0) (h : spec_HasPair.f k l0 a1_0 a1_1 = some r) :
    Calls Try.prog 17 #[.slice A0 l0.length c0, .agg #[.int .i64 a1_0, .int .i64 a1_1]] w fun e w' => e = .returned (.bool r) ∧ Below w.heap.size w w' := by
  have hu40 := Try.underlying40
  have HR0 := Aside0.mk hr0
  have HC0 := Aside0.mk hc0
  clear hr0 hc0
  have HB := Aside0.mk (Below.refl w.heap.size w)
  have H : (spec_HasPair.l0 k l0 0 a1_0 a1_1) = some r := h
  clear h
  have H' := Aside0.mk H
  clear H
  go_enter Try.func17, Try.ntmps17
  go_wp2_with (first | ((with_reducible refine gate_dst (N := 3) rfl ?_); refine box_event ?hg (N := 3) ?hd (cs := #[.int .i64 a1_0, .int .i64 a1_1]) (t := 40) ?hr ?_; (case hd => rfl); (case hg => rfl); (case hr => first | (go_simp; done) | (go_simp; rfl)); intro gb278 hg w3 hbox hb; have n0_ := Aside0.mk (below_step (by repeat (first | (with_reducible first | exact HB.out | apply below_alloc | apply pw_below_drewN | apply below_drew1) | exact HB.out)) hb); have n1_ := Aside0.mk (hbox); have n2_ := Aside0.mk ((by rw [hg]; exact (below_size (by repeat (first | (with_reducible first | exact HB.out | apply below_alloc | apply pw_below_drewN | apply below_drew1) | exact HB.out))) : w.heap.size ≤ gb278)); have n3_ := Aside0.mk ((by rw [hg]; exact (below_size (by repeat (first | (with_reducible first | exact HB.out | apply below_alloc | apply pw_below_drewN | apply below_drew1) | exact HB.out))) : w.heap.size ≤ gb278)); clear HB; have HB := n0_; have BK278 := n1_; have GW278 := n2_; have GE278 := n3_; clear n0_ n1_ n2_ n3_; clear hb hbox hg))
  repeat (go_quiet (first | ((with_reducible refine gate_dst (N := 3) rfl ?_); refine box_event ?hg (N := 3) ?hd (cs := #[.int .i64 a1_0, .int .i64 a1_1]) (t := 40) ?hr ?_; (case hd => rfl); (case hg => rfl); (case hr => first | (go_simp; done) | (go_simp; rfl)); intro gb278 hg w3 hbox hb; have n0_ := Aside0.mk (below_step (by repeat (first | (with_reducible first | exact HB.out | apply below_alloc | apply pw_below_drewN | apply below_drew1) | exact HB.out)) hb); have n1_ := Aside0.mk (hbox); have n2_ := Aside0.mk ((by rw [hg]; exact (below_size (by repeat (first | (with_reducible first | exact HB.out | apply below_alloc | apply pw_below_drewN | apply below_drew1) | exact HB.out))) : w.heap.size ≤ gb278)); have n3_ := Aside0.mk ((by rw [hg]; exact (below_size (by repeat (first | (with_reducible first | exact HB.out | apply below_alloc | apply pw_below_drewN | apply below_drew1) | exact HB.out))) : w.heap.size ≤ gb278)); clear HB; have HB := n0_; have BK278 := n1_; have GW278 := n2_; have GE278 := n3_; clear n0_ n1_ n2_ n3_; clear hb hbox hg)); try go_wp2_with (first | ((with_reducible refine gate_dst (N := 3) rfl ?_); refine box_event ?hg (N := 3) ?hd (cs := #[.int .i64 a1_0, .int .i64 a1_1]) (t := 40) ?hr ?_; (case hd => rfl); (case hg => rfl); (case hr => first | (go_simp; done) | (go_simp; rfl)); intro gb278 hg w3 hbox hb; have n0_ := Aside0.mk (below_step (by repeat (first | (with_reducible first | exact HB.out | apply below_alloc | apply pw_below_drewN | apply below_drew1) | exact HB.out)) hb); have n1_ := Aside0.mk (hbox); have n2_ := Aside0.mk ((by rw [hg]; exact (below_size (by repeat (first | (with_reducible first | exact HB.out | apply below_alloc | apply pw_below_drewN | apply below_drew1) | exact HB.out))) : w.heap.size ≤ gb278)); have n3_ := Aside0.mk ((by rw [hg]; exact (below_size (by repeat (first | (with_reducible first | exact HB.out | apply below_alloc | apply pw_below_drewN | apply below_drew1) | exact HB.out))) : w.heap.size ≤ gb278)); clear HB; have HB := n0_; have BK278 := n1_; have GW278 := n2_; have GE278 := n3_; clear n0_ n1_ n2_ n3_; clear hb hbox hg)))
  go_loopg [5] k (fun kq v5 w' => ∃ (x5_1 : Int), v5 = .int .i64 x5_1 ∧ Aside0 (spec_HasPair.l0 kq l0 x5_1 a1_0 a1_1 = some r) ∧ Aside0 (kq ≤ k) ∧ Aside0 (w'.heap[gb278]? = some (.cells #[.int .i64 a1_0, .int .i64 a1_1] 40 (0, 0))) ∧ Aside0 (Below w.heap.size w w'))
  case atStart => exact ⟨(0), (by first | rfl | (simp; done) | (simp [*]; done)), H', ⟨Nat.le_refl _⟩, ⟨by (with_reducible repeat (first | refine blk_drewN ?_ _ | refine blk_drew ?_ | refine blk_alloc ?_ _)); exact BK278.out⟩, ⟨by repeat (first | (with_reducible first | exact HB.out | apply below_alloc | apply pw_below_drewN | apply below_drew1 | refine below_set ?_ GE278.out) | exact HB.out)⟩⟩
  case round =>
    clear H'
    try clear c1
    try clear p2
    obtain ⟨x5_1, rfl, HA, HK1, BK278, HB⟩ := hrel
    cases gk with
    | zero => exact absurd HA.out (by simp [spec_HasPair.l0])
    | succ k1 =>
      have H := HA.out
      clear HA
      simp only [spec_HasPair.l0] at H
      by_cases c4 : x5_1 < (l0.length : Int)
      · rw [if_pos c4] at H
        have c4b0 : decide (x5_1 < (l0.length : Int)) = true := decide_eq_true c4
        clear c4
        by_cases c5 : 0 ≤ x5_1
        · rw [if_pos c5] at H
          have c5b0 : decide (0 ≤ x5_1) = true := decide_eq_true c5
          clear c5
          by_cases c6 : ((rd_T40 l0 x5_1).f0) = a1_0
          · rw [if_pos c6] at H
            have c6b0 : (((rd_T40 l0 x5_1).f0) == a1_0) = true := beq_iff_eq.mpr c6
            have c6b1 : (((rd_T40 l0 x5_1).f0) != a1_0) = false := bne_eq_false_iff_eq.mpr c6
            clear c6
            by_cases c7 : ((rd_T40 l0 x5_1).f1) = a1_1
            · rw [if_pos c7] at H
              have c7b0 : (((rd_T40 l0 x5_1).f1) == a1_1) = true := beq_iff_eq.mpr c7
              have c7b1 : (((rd_T40 l0 x5_1).f1) != a1_1) = false := bne_eq_false_iff_eq.mpr c7
              clear c7
              obtain rfl := Option.some.inj H
              have p279 : 0 ≤ (x5_1 : Int) := of_decide_eq_true (by first | (with_reducible assumption) | assumption)
              have q279 : x5_1 < (l0.length : Int) := of_decide_eq_true (by first | (with_reducible assumption) | assumption)
              obtain ⟨ad279, e279, hx279_0, hx279_1⟩ := at_T40 HR0.out x5_1 p279 q279
              cases e279
              replace hx279_0 := (HB.out.cell (World.block_lt_of_cell? w _ hx279_0)).trans hx279_0
              replace hx279_1 := (HB.out.cell (World.block_lt_of_cell? w _ hx279_1)).trans hx279_1
              replace p279 := eq_true p279
              replace q279 := eq_true q279
              have hcz8_0 : wr.cell? ⟨gb278, 0, none⟩ = some (.int .i64 a1_0) := (blk_cell BK278.out 0).trans rfl
              have hcz8_1 : wr.cell? ⟨gb278, 1, none⟩ = some (.int .i64 a1_1) := (blk_cell BK278.out 1).trans rfl
              have hfz8_0 := blk_frozen BK278.out 0
              have hfz8_1 := blk_frozen BK278.out 1
              go_wp2
              repeat (go_quiet (fail); try go_wp2)
              go_ret
              exact ⟨by first | rfl | (simp [errW_none, errW_some] <;> rfl) | (simp [*, errW_none, errW_some] <;> rfl), by repeat (first | (with_reducible first | exact HB.out | apply below_alloc | apply pw_below_drewN | apply below_drew1 | refine below_set ?_ GE278.out) | exact HB.out)⟩
            · rw [if_neg c7] at H
              have c7b0 : (((rd_T40 l0 x5_1).f1) == a1_1) = false := beq_eq_false_iff_ne.mpr c7
              have c7b1 : (((rd_T40 l0 x5_1).f1) != a1_1) = true := bne_iff_ne.mpr c7
              have H' := Aside0.mk H
              clear H
              have p279 : 0 ≤ (x5_1 : Int) := of_decide_eq_true (by first | (with_reducible assumption) | assumption)
              have q279 : x5_1 < (l0.length : Int) := of_decide_eq_true (by first | (with_reducible assumption) | assumption)
              obtain ⟨ad279, e279, hx279_0, hx279_1⟩ := at_T40 HR0.out x5_1 p279 q279
              cases e279
              replace hx279_0 := (HB.out.cell (World.block_lt_of_cell? w _ hx279_0)).trans hx279_0
              replace hx279_1 := (HB.out.cell (World.block_lt_of_cell? w _ hx279_1)).trans hx279_1
              replace p279 := eq_true p279
              replace q279 := eq_true q279
              have hcz9_0 : wr.cell? ⟨gb278, 0, none⟩ = some (.int .i64 a1_0) := (blk_cell BK278.out 0).trans rfl
              have hcz9_1 : wr.cell? ⟨gb278, 1, none⟩ = some (.int .i64 a1_1) := (blk_cell BK278.out 1).trans rfl
              have hfz9_0 := blk_frozen BK278.out 0
              have hfz9_1 := blk_frozen BK278.out 1
              go_wp2
              repeat (go_quiet (fail); try go_wp2)
              go_roundg k1
              case measure => have := HK1.out; omega
              case rel => exact ⟨(wrap64 (x5_1 + 1)), (by first | rfl | (simp; done) | (simp [*]; done)), H', ⟨by have := HK1.out; omega⟩, ⟨by (with_reducible repeat (first | refine blk_drewN ?_ _ | refine blk_drew ?_ | refine blk_alloc ?_ _)); exact BK278.out⟩, ⟨by repeat (first | (with_reducible first | exact HB.out | apply below_alloc | apply pw_below_drewN | apply below_drew1 | refine below_set ?_ GE278.out) | exact HB.out)⟩⟩
          · rw [if_neg c6] at H
            have c6b0 : (((rd_T40 l0 x5_1).f0) == a1_0) = false := beq_eq_false_iff_ne.mpr c6
            have c6b1 : (((rd_T40 l0 x5_1).f0) != a1_0) = true := bne_iff_ne.mpr c6
            have H' := Aside0.mk H
            clear H
            have p279 : 0 ≤ (x5_1 : Int) := of_decide_eq_true (by first | (with_reducible assumption) | assumption)
            have q279 : x5_1 < (l0.length : Int) := of_decide_eq_true (by first | (with_reducible assumption) | assumption)
            obtain ⟨ad279, e279, hx279_0, hx279_1⟩ := at_T40 HR0.out x5_1 p279 q279
            cases e279
            replace hx279_0 := (HB.out.cell (World.block_lt_of_cell? w _ hx279_0)).trans hx279_0
            replace hx279_1 := (HB.out.cell (World.block_lt_of_cell? w _ hx279_1)).trans hx279_1
            replace p279 := eq_true p279
            replace q279 := eq_true q279
            have hcz10_0 : wr.cell? ⟨gb278, 0, none⟩ = some (.int .i64 a1_0) := (blk_cell BK278.out 0).trans rfl
            have hcz10_1 : wr.cell? ⟨gb278, 1, none⟩ = some (.int .i64 a1_1) := (blk_cell BK278.out 1).trans rfl
            have hfz10_0 := blk_frozen BK278.out 0
            have hfz10_1 := blk_frozen BK278.out 1
            go_wp2
            repeat (go_quiet (fail); try go_wp2)
            go_roundg k1
            case measure => have := HK1.out; omega
            case rel => exact ⟨(wrap64 (x5_1 + 1)), (by first | rfl | (simp; done) | (simp [*]; done)), H', ⟨by have := HK1.out; omega⟩, ⟨by (with_reducible repeat (first | refine blk_drewN ?_ _ | refine blk_drew ?_ | refine blk_alloc ?_ _)); exact BK278.out⟩, ⟨by repeat (first | (with_reducible first | exact HB.out | apply below_alloc | apply pw_below_drewN | apply below_drew1 | refine below_set ?_ GE278.out) | exact HB.out)⟩⟩
        · rw [if_neg c5] at H
          exact absurd H (by simp)
      · rw [if_neg c4] at H
        have c4b0 : decide (x5_1 < (l0.length : Int)) = false := decide_eq_false c4
        clear c4
        obtain rfl := Option.some.inj H
        go_wp2
        repeat (go_quiet (fail); try go_wp2)
        go_ret
        exact ⟨by first | rfl | (simp [errW_none, errW_some] <;> rfl) | (simp [*, errW_none, errW_some] <;> rfl), by repeat (first | (with_reducible first | exact HB.out | apply below_alloc | apply pw_below_drewN | apply below_drew1 | refine below_set ?_ GE278.out) | exact HB.out)⟩
end Go.Proofs.Ytmheflciiodhdaa.P
-- Written by wip/tools/mkprint.py of this repo, over the kit's print, out of the translation; Lean checks it.
namespace Go.Proofs.Ytmheflciiodhdaa.P
open Go.RowKit Go.Proofs.YtmheflciiodhdaaW.PrintWords Go.Proofs.YtmheflciiodhdaaW.PrintLast Go.Proofs.YtmheflciiodhdaaW.PrintMore
attribute [local go_sem] max2_int min2_int max_two min_two max_three min_three max_four min_four   -- for this text's walks alone
set_option linter.unusedVariables false
set_option linter.unusedSimpArgs false
/-! ### spec_SamePairs: function 15 -/
def spec_SamePairs.l0 : Nat → List (S40) → List (S40) → Int → Option (Bool)
  | 0, _, _, _ => none
  | k + 1, x0, x1, x5 => if x5 < (x0.length : Int) then (if 0 ≤ x5 then (if x5 < (x1.length : Int) then (if ((rd_T40 x0 x5).f0) = ((rd_T40 x1 x5).f0) then (if ((rd_T40 x0 x5).f1) = ((rd_T40 x1 x5).f1) then (spec_SamePairs.l0 k x0 x1 (wrap64 (x5 + 1))) else (some false)) else (some false)) else (none)) else (none)) else (some true)
def spec_SamePairs.f (k : Nat) (l0 : List (S40)) (l1 : List (S40)) : Option (Bool) := if (l0.length : Int) = (l1.length : Int) then (spec_SamePairs.l0 k l0 l1 0) else (some false)
theorem spec_SamePairs.mono_l : ∀ k, (∀ y0 y1 y2, LeO (spec_SamePairs.l0 k y0 y1 y2) (spec_SamePairs.l0 (k + 1) y0 y1 y2))
  | 0 => fun _ _ _ r h => by simp [spec_SamePairs.l0] at h
  | k + 1 => by
    have ih0 := spec_SamePairs.mono_l k
    · intro y0 y1 y2
      unfold spec_SamePairs.l0
      repeat' first
      | (with_reducible exact ih0 _ _ _)
      | (with_reducible exact LeO.refl _)
      | (with_reducible exact LeO.none _)
      | (with_reducible refine LeO.ite ?_ ?_)
      | (with_reducible refine LeO.bind ?_ (fun _ => ?_))
      | exact ih0 _ _ _
      | exact LeO.none _
      | refine LeO.ite ?_ ?_
      | refine LeO.bind ?_ (fun _ => ?_)
theorem spec_SamePairs.mono : ∀ a0 a1 k, LeO (spec_SamePairs.f k a0 a1) (spec_SamePairs.f (k + 1) a0 a1) := by
  intro a0 a1 k
  have ih0 := spec_SamePairs.mono_l k
  unfold spec_SamePairs.f
  repeat' first
      | (with_reducible exact ih0 _ _ _)
      | (with_reducible exact LeO.refl _)
      | (with_reducible exact LeO.none _)
      | (with_reducible refine LeO.ite ?_ ?_)
      | (with_reducible refine LeO.bind ?_ (fun _ => ?_))
      | exact ih0 _ _ _
      | exact LeO.none _
      | refine LeO.ite ?_ ?_
      | refine LeO.bind ?_ (fun _ => ?_)
set_option maxHeartbeats 8000000 in
set_option maxRecDepth 100000 in
theorem spec_SamePairs.calls (k : Nat) (A0 : Option Addr) (c0 : Nat) (l0 : List (S40)) (A1 : Option Addr) (c1 : Nat) (l1 : List (S40)) (r : Bool) (w : World) (hr0 : Kd.C k40 w A0 l0.length l0) (hc0 : l0.length ≤ c0) (hr1 : Kd.C k40 w A1 l1.length l1) (hc1 : l1.length ≤ c1) (h : spec_SamePairs.f k l0 l1 = some r) :
    Calls Try.prog 15 #[.slice A0 l0.length c0, .slice A1 l1.length c1] w fun e w' => e = .returned (.bool r) ∧ Drawn0 w w' := by
  have hu40 := Try.underlying40
  have HR0 := Aside0.mk hr0
  have HC0 := Aside0.mk hc0
  clear hr0 hc0
  have HR1 := Aside0.mk hr1
  have HC1 := Aside0.mk hc1
  clear hr1 hc1
  have H : (if (l0.length : Int) = (l1.length : Int) then (spec_SamePairs.l0 k l0 l1 0) else (some false)) = some r := h
  clear h
  by_cases c3 : (l0.length : Int) = (l1.length : Int)
  · rw [if_pos c3] at H
    have c3b0 : ((l0.length : Int) == (l1.length : Int)) = true := beq_iff_eq.mpr c3
    have c3b1 : ((l0.length : Int) != (l1.length : Int)) = false := bne_eq_false_iff_eq.mpr c3
    have c3b2 : (l0.length == l1.length) = true := by first | simpa using c3 | (simp at c3 ⊢; omega)
    clear c3
    have H' := Aside0.mk H
    clear H
    go_enter Try.func15, Try.ntmps15
    go_wp2
    repeat (go_quiet (fail); try go_wp2)
    go_loopg [5] k (fun kq v5 w' => ∃ (x5_1 : Int), v5 = .int .i64 x5_1 ∧ Aside0 (spec_SamePairs.l0 kq l0 l1 x5_1 = some r) ∧ Aside0 (kq ≤ k) ∧ Drawn0 w w')
    case atStart => exact ⟨(0), (by first | rfl | (simp; done) | (simp [*]; done)), H', ⟨Nat.le_refl _⟩, by repeat (first | exact Drawn0.refl _ | apply Drawn0.step)⟩
    case round =>
      clear H'
      try clear c1
      try clear p2
      try clear c3
      try clear c3b0
      try clear c3b1
      try clear c3b2
      obtain ⟨x5_1, rfl, HA, HK1, ⟨m1, rfl⟩⟩ := hrel
      cases gk with
      | zero => exact absurd HA.out (by simp [spec_SamePairs.l0])
      | succ k1 =>
        have H := HA.out
        clear HA
        simp only [spec_SamePairs.l0] at H
        by_cases c4 : x5_1 < (l0.length : Int)
        · rw [if_pos c4] at H
          have c4b0 : decide (x5_1 < (l0.length : Int)) = true := decide_eq_true c4
          clear c4
          by_cases c5 : 0 ≤ x5_1
          · rw [if_pos c5] at H
            have c5b0 : decide (0 ≤ x5_1) = true := decide_eq_true c5
            clear c5
            by_cases c6 : x5_1 < (l1.length : Int)
            · rw [if_pos c6] at H
              have c6b0 : decide (x5_1 < (l1.length : Int)) = true := decide_eq_true c6
              clear c6
              by_cases c7 : ((rd_T40 l0 x5_1).f0) = ((rd_T40 l1 x5_1).f0)
              · rw [if_pos c7] at H
                have c7b0 : (((rd_T40 l0 x5_1).f0) == ((rd_T40 l1 x5_1).f0)) = true := beq_iff_eq.mpr c7
                have c7b1 : (((rd_T40 l0 x5_1).f0) != ((rd_T40 l1 x5_1).f0)) = false := bne_eq_false_iff_eq.mpr c7
                clear c7
                by_cases c8 : ((rd_T40 l0 x5_1).f1) = ((rd_T40 l1 x5_1).f1)
                · rw [if_pos c8] at H
                  have c8b0 : (((rd_T40 l0 x5_1).f1) == ((rd_T40 l1 x5_1).f1)) = true := beq_iff_eq.mpr c8
                  have c8b1 : (((rd_T40 l0 x5_1).f1) != ((rd_T40 l1 x5_1).f1)) = false := bne_eq_false_iff_eq.mpr c8
                  clear c8
                  have H' := Aside0.mk H
                  clear H
                  have p256 : 0 ≤ (x5_1 : Int) := of_decide_eq_true (by first | (with_reducible assumption) | assumption)
                  have q256 : x5_1 < (l0.length : Int) := of_decide_eq_true (by first | (with_reducible assumption) | assumption)
                  obtain ⟨ad256, e256, hx256_0, hx256_1⟩ := at_T40 HR0.out x5_1 p256 q256
                  cases e256
                  replace p256 := eq_true p256
                  replace q256 := eq_true q256
                  have p257 : 0 ≤ (x5_1 : Int) := of_decide_eq_true (by first | (with_reducible assumption) | assumption)
                  have q257 : x5_1 < (l1.length : Int) := of_decide_eq_true (by first | (with_reducible assumption) | assumption)
                  obtain ⟨ad257, e257, hx257_0, hx257_1⟩ := at_T40 HR1.out x5_1 p257 q257
                  cases e257
                  replace p257 := eq_true p257
                  replace q257 := eq_true q257
                  go_wp2
                  repeat (go_quiet (fail); try go_wp2)
                  go_roundg k1
                  case measure => have := HK1.out; omega
                  case rel => exact ⟨(wrap64 (x5_1 + 1)), (by first | rfl | (simp; done) | (simp [*]; done)), H', ⟨by have := HK1.out; omega⟩, by repeat (first | exact Drawn0.refl _ | apply Drawn0.step)⟩
                · rw [if_neg c8] at H
                  have c8b0 : (((rd_T40 l0 x5_1).f1) == ((rd_T40 l1 x5_1).f1)) = false := beq_eq_false_iff_ne.mpr c8
                  have c8b1 : (((rd_T40 l0 x5_1).f1) != ((rd_T40 l1 x5_1).f1)) = true := bne_iff_ne.mpr c8
                  obtain rfl := Option.some.inj H
                  have p256 : 0 ≤ (x5_1 : Int) := of_decide_eq_true (by first | (with_reducible assumption) | assumption)
                  have q256 : x5_1 < (l0.length : Int) := of_decide_eq_true (by first | (with_reducible assumption) | assumption)
                  obtain ⟨ad256, e256, hx256_0, hx256_1⟩ := at_T40 HR0.out x5_1 p256 q256
                  cases e256
                  replace p256 := eq_true p256
                  replace q256 := eq_true q256
                  have p257 : 0 ≤ (x5_1 : Int) := of_decide_eq_true (by first | (with_reducible assumption) | assumption)
                  have q257 : x5_1 < (l1.length : Int) := of_decide_eq_true (by first | (with_reducible assumption) | assumption)
                  obtain ⟨ad257, e257, hx257_0, hx257_1⟩ := at_T40 HR1.out x5_1 p257 q257
                  cases e257
                  replace p257 := eq_true p257
                  replace q257 := eq_true q257
                  go_wp2
                  repeat (go_quiet (fail); try go_wp2)
                  go_ret
                  exact ⟨by first | rfl | (simp; done) | (simp [*]; done), by repeat (first | exact Drawn0.refl _ | apply Drawn0.step)⟩
              · rw [if_neg c7] at H
                have c7b0 : (((rd_T40 l0 x5_1).f0) == ((rd_T40 l1 x5_1).f0)) = false := beq_eq_false_iff_ne.mpr c7
                have c7b1 : (((rd_T40 l0 x5_1).f0) != ((rd_T40 l1 x5_1).f0)) = true := bne_iff_ne.mpr c7
                obtain rfl := Option.some.inj H
                have p256 : 0 ≤ (x5_1 : Int) := of_decide_eq_true (by first | (with_reducible assumption) | assumption)
                have q256 : x5_1 < (l0.length : Int) := of_decide_eq_true (by first | (with_reducible assumption) | assumption)
                obtain ⟨ad256, e256, hx256_0, hx256_1⟩ := at_T40 HR0.out x5_1 p256 q256
                cases e256
                replace p256 := eq_true p256
                replace q256 := eq_true q256
                have p257 : 0 ≤ (x5_1 : Int) := of_decide_eq_true (by first | (with_reducible assumption) | assumption)
                have q257 : x5_1 < (l1.length : Int) := of_decide_eq_true (by first | (with_reducible assumption) | assumption)
                obtain ⟨ad257, e257, hx257_0, hx257_1⟩ := at_T40 HR1.out x5_1 p257 q257
                cases e257
                replace p257 := eq_true p257
                replace q257 := eq_true q257
                go_wp2
                repeat (go_quiet (fail); try go_wp2)
                go_ret
                exact ⟨by first | rfl | (simp; done) | (simp [*]; done), by repeat (first | exact Drawn0.refl _ | apply Drawn0.step)⟩
            · rw [if_neg c6] at H
              exact absurd H (by simp)
          · rw [if_neg c5] at H
            exact absurd H (by simp)
        · rw [if_neg c4] at H
          have c4b0 : decide (x5_1 < (l0.length : Int)) = false := decide_eq_false c4
          clear c4
          obtain rfl := Option.some.inj H
          go_wp2
          repeat (go_quiet (fail); try go_wp2)
          go_ret
          exact ⟨by first | rfl | (simp; done) | (simp [*]; done), by repeat (first | exact Drawn0.refl _ | apply Drawn0.step)⟩
  · rw [if_neg c3] at H
    have c3b0 : ((l0.length : Int) == (l1.length : Int)) = false := beq_eq_false_iff_ne.mpr c3
    have c3b1 : ((l0.length : Int) != (l1.length : Int)) = true := bne_iff_ne.mpr c3
    have c3b2 : (l0.length == l1.length) = false := by first | simpa using c3 | (simp at c3 ⊢; omega)
    obtain rfl := Option.some.inj H
    go_enter Try.func15, Try.ntmps15
    go_wp2
    repeat (go_quiet (fail); try go_wp2)
    go_ret
    exact ⟨by first | rfl | (simp; done) | (simp [*]; done), by repeat (first | exact Drawn0.refl _ | apply Drawn0.step)⟩
end Go.Proofs.Ytmheflciiodhdaa.P
-- Written by wip/tools/mkprint.py of this repo, over the kit's print, out of the translation; Lean checks it.
namespace Go.Proofs.Ytmheflciiodhdaa.P
open Go.RowKit Go.Proofs.YtmheflciiodhdaaW.PrintWords Go.Proofs.YtmheflciiodhdaaW.PrintLast Go.Proofs.YtmheflciiodhdaaW.PrintMore
attribute [local go_sem] max2_int min2_int max_two min_two max_three min_three max_four min_four   -- for this text's walks alone
set_option linter.unusedVariables false
set_option linter.unusedSimpArgs false
/-! ### laws_FnMissed: function 3 -/
mutual
def laws_FnMissed.j0 : Nat → List Int → List Int → Bool → Option (Bool)
  | 0, _, _, _ => none
  | k + 1, x0, x1, x36 => if x36 = true then (some true) else ((spec_P6Row.f k x0).bind fun t293 => ((spec_P6Walkers.f k x1 (t293.length : Int)).bind fun t296 => ((spec_P6Pick.f x1 30).bind fun t299 => ((spec_RowOn.f k t293 t296 t299).bind fun bt300 => ((impl_MissedWalks.f k t293 t296 t299 bt300.1).bind fun bt304 => ((spec_MissedWalks.f k t293 t296 t299 bt300.1).bind fun bt308 => (if bt300.2 = 0 then (if bt304.2 = bt308.2 then (if bt304.2 = 0 then ((spec_SamePairs.f k bt304.1 bt308.1).bind fun t312 => (laws_FnMissed.j1 k x0 t293 (t293.length : Int) t296 t299 bt300.1 bt308.1 (!t312))) else (laws_FnMissed.j1 k x0 t293 (t293.length : Int) t296 t299 bt300.1 bt308.1 true)) else (laws_FnMissed.j1 k x0 t293 (t293.length : Int) t296 t299 bt300.1 bt308.1 true)) else (laws_FnMissed.j1 k x0 t293 (t293.length : Int) t296 t299 bt300.1 bt308.1 true))))))))
def laws_FnMissed.j1 : Nat → List Int → List Int → Int → List (S38) → Int → List Int → List (S40) → Bool → Option (Bool)
  | 0, _, _, _, _, _, _, _, _ => none
  | k + 1, x0, x5, x6, x7, x8, x9, x13, x85 => if x85 = true then (some false) else (if (x7.length : Int) = 0 then (some ((x13.length : Int) == 0)) else ((spec_P6Pick.f x0 (x7.length : Int)).bind fun t313 => (if 0 ≤ t313 then (if t313 < (x7.length : Int) then (if (wrap64 ((rd_T38 x7 t313).f0)) > x8 then (some true) else ((spec_DayOf.f k x9 (([(⟨0, (rd_T38 x7 t313).f1, (rd_T38 x7 t313).f2, (rd_T38 x7 t313).f3, (rd_T38 x7 t313).f4, IntKind.i8.wrap (-((rd_T38 x7 t313).f5))⟩ : S38)] : List (S38))) 0).bind fun bt320 => ((impl_MissedWalks.f k x5 x7 x8 bt320.1).bind fun bt324 => ((spec_MissedWalks.f k x5 x7 x8 bt320.1).bind fun bt328 => (if bt320.2 = 0 then (if bt324.2 = bt328.2 then (if bt324.2 = 0 then ((spec_SamePairs.f k bt324.1 bt328.1).bind fun t332 => (if t332 = true then ((spec_HasPair.f k bt328.1 t313 (wrap64 ((rd_T38 x7 t313).f0))).bind fun t333 => (laws_FnMissed.j2 k x6 x7 x8 x9 bt320.1 bt328.1 (!t333))) else (laws_FnMissed.j2 k x6 x7 x8 x9 bt320.1 bt328.1 true))) else (laws_FnMissed.j2 k x6 x7 x8 x9 bt320.1 bt328.1 true)) else (laws_FnMissed.j2 k x6 x7 x8 x9 bt320.1 bt328.1 true)) else (laws_FnMissed.j2 k x6 x7 x8 x9 bt320.1 bt328.1 true)))))) else (none)) else (none))))
def laws_FnMissed.j2 : Nat → Int → List (S38) → Int → List Int → List Int → List (S40) → Bool → Option (Bool)
  | 0, _, _, _, _, _, _, _ => none
  | k + 1, x6, x7, x8, x9, x18, x22, x160 => if x160 = true then (some false) else (laws_FnMissed.l0 k x6 x7 x8 x9 x18 x22 0)
def laws_FnMissed.l0 : Nat → Int → List (S38) → Int → List Int → List Int → List (S40) → Int → Option (Bool)
  | 0, _, _, _, _, _, _, _ => none
  | k + 1, x6, x7, x8, x9, x18, x22, x24 => if x24 < (x22.length : Int) then (if 0 ≤ x24 then (if ((rd_T40 x22 x24).f0) < 0 then (laws_FnMissed.j4 k x6 x7 x8 x9 x18 x22 x24 ((rd_T40 x22 x24).f0) true) else (if ((rd_T40 x22 x24).f0) ≥ (x7.length : Int) then (laws_FnMissed.j4 k x6 x7 x8 x9 x18 x22 x24 ((rd_T40 x22 x24).f0) true) else (if x24 > 0 then (if 0 ≤ (wrap64 (x24 - 1)) then (if (wrap64 (x24 - 1)) < (x22.length : Int) then (if ((rd_T40 x22 x24).f0) < ((rd_T40 x22 (wrap64 (x24 - 1))).f0) then (laws_FnMissed.j4 k x6 x7 x8 x9 x18 x22 x24 ((rd_T40 x22 x24).f0) true) else (if ((rd_T40 x22 x24).f0) = ((rd_T40 x22 (wrap64 (x24 - 1))).f0) then (laws_FnMissed.j4 k x6 x7 x8 x9 x18 x22 x24 ((rd_T40 x22 x24).f0) (decide (((rd_T40 x22 x24).f1) ≤ ((rd_T40 x22 (wrap64 (x24 - 1))).f1)))) else (laws_FnMissed.j4 k x6 x7 x8 x9 x18 x22 x24 ((rd_T40 x22 x24).f0) false))) else (none)) else (none)) else (laws_FnMissed.j4 k x6 x7 x8 x9 x18 x22 x24 ((rd_T40 x22 x24).f0) false)))) else (none)) else (some true)
def laws_FnMissed.j4 : Nat → Int → List (S38) → Int → List Int → List Int → List (S40) → Int → Int → Bool → Option (Bool)
  | 0, _, _, _, _, _, _, _, _, _ => none
  | k + 1, x6, x7, x8, x9, x18, x22, x24, x25, x217 => if x217 = true then (some false) else (if 0 ≤ x25 then (if x25 < (x7.length : Int) then (if 0 ≤ x24 then (if x24 < (x22.length : Int) then ((impl_WalksOn.f x6 ((rd_T38 x7 x25).f0) ((rd_T38 x7 x25).f1) ((rd_T38 x7 x25).f2) ((rd_T38 x7 x25).f3) ((rd_T38 x7 x25).f4) ((rd_T38 x7 x25).f5) ((rd_T40 x22 x24).f1)).bind fun bt341 => (if bt341.2 = 0 then (if bt341.1 = true then (laws_FnMissed.j5 k x6 x7 x8 x9 x18 x22 x24 x25 (decide (((rd_T40 x22 x24).f1) > x8))) else (laws_FnMissed.j5 k x6 x7 x8 x9 x18 x22 x24 x25 true)) else (laws_FnMissed.j5 k x6 x7 x8 x9 x18 x22 x24 x25 true))) else (none)) else (none)) else (none)) else (none))
def laws_FnMissed.j5 : Nat → Int → List (S38) → Int → List Int → List Int → List (S40) → Int → Int → Bool → Option (Bool)
  | 0, _, _, _, _, _, _, _, _, _ => none
  | k + 1, x6, x7, x8, x9, x18, x22, x24, x25, x246 => if x246 = true then (some false) else (if 0 ≤ x25 then (if x25 < (x7.length : Int) then ((impl_DayOf.f k x18 (([(⟨0, (rd_T38 x7 x25).f1, (rd_T38 x7 x25).f2, (rd_T38 x7 x25).f3, (rd_T38 x7 x25).f4, (rd_T38 x7 x25).f5⟩ : S38)] : List (S38))) 0).bind fun bt349 => (if bt349.2 = 0 then (if (bt349.1.length : Int) = (x9.length : Int) then ((spec_SameRow.f k bt349.1 x9).bind fun t353 => (if t353 = true then (laws_FnMissed.l0 k x6 x7 x8 x9 x18 x22 (wrap64 (x24 + 1))) else (some false))) else (some false)) else (some false))) else (none)) else (none))
end
def laws_FnMissed.f (k : Nat) (l0 : List Int) (l1 : List Int) : Option (Bool) := (laws_f6big.f l0).bind fun t291 => (if t291 = true then (laws_FnMissed.j0 k l0 l1 true) else ((laws_f6big.f l1).bind fun t292 => (laws_FnMissed.j0 k l0 l1 t292)))
def laws_FnMissed.T30 : Bool × List (List Nat × List Nat) := (true, [([], []), ([0], [0]), ([1], [1]), ([2], [2]), ([2], [2]), ([4, 2], [2, 4]), ([3, 5, 2], [2, 3, 5]), ([2, 6], [2, 6]), ([7, 2], [7]), ([8], [8]), ([9, 8], [8, 9]), ([10, 8, 8], [8, 10]), ([11], [11]), ([11], [11]), ([11], [11]), ([14, 11], [11, 14]), ([13, 15, 11], [11, 13, 15]), ([16, 11], [11, 16]), ([17, 11], [11, 17]), ([12, 18, 11], [11, 12, 18]), ([19, 11, 11], [11, 19]), ([20], [20]), ([20], [20]), ([20], [20]), ([23, 20], [20, 23]), ([22, 24, 20], [20, 22, 24]), ([25, 20], [20, 25]), ([26, 20], [20, 26]), ([21, 27, 20], [20, 21, 27]), ([28, 20, 20], [20, 28]), ([29], [29]), ([29], [29]), ([30, 31, 29], [29, 30, 31]), ([32, 29], [29, 32]), ([33, 29], [29, 33]), ([29], [29]), ([29], [29]), ([36, 29], [29, 36]), ([35, 37, 29], [29, 35, 37]), ([38, 29], [29, 38]), ([39, 29], [29, 39]), ([34, 40, 29], [29, 34, 40]), ([29, 41, 20], [20, 29, 41]), ([20, 42, 11], [11, 20, 42]), ([11, 43, 8], [8, 11, 43]), ([8, 44], [8, 44])])
def laws_FnMissed.B30 : List Nat := [0, 1, 3, 7, 7, 23, 63, 127, 255, 511, 1023, 2047, 4095, 4095, 4095, 20479, 61439, 126975, 258047, 524287, 1048575, 2097151, 2097151, 2097151, 10485759, 31457279, 65011711, 132120575, 268435455, 536870911, 1073741823, 1073741823, 4294967295, 8589934591, 17179869183, 1073741823, 1073741823, 69793218559, 241591910399, 516469817343, 1066225631231, 2199023255551, 4398046511103, 8796093022207, 17592186044415, 35184372088831]
theorem laws_FnMissed.tab30 : rtab .any (opsOf Try.f3 30) = laws_FnMissed.T30 := by kernel_rfl
theorem laws_FnMissed.bits30 : waitsOk laws_FnMissed.T30.2 laws_FnMissed.B30 = true := by kernel_rfl
def laws_FnMissed.T32 : Bool × List (List Nat × List Nat) := (true, [([], []), ([], []), ([], []), ([1, 2], [1, 2]), ([3], [3]), ([], []), ([], []), ([5, 6], [5, 6]), ([7], [7]), ([8], [8]), ([0, 4, 9], [0, 4, 9]), ([10], [10]), ([11], [11]), ([11], [11]), ([12, 10, 0, 1, 2, 3, 4, 5, 6, 7, 8, 9, 10, 11, 12], [12]), ([13, 14, 0, 1, 2, 3, 4, 5, 6, 7, 8, 9, 10, 11, 12, 13, 14], [13])])
def laws_FnMissed.B32 : List Nat := [0, 0, 0, 6, 14, 0, 0, 96, 224, 480, 1023, 2047, 4095, 4095, 8191, 32767]
theorem laws_FnMissed.tab32 : rtab .any (opsOf Try.f3 32) = laws_FnMissed.T32 := by kernel_rfl
theorem laws_FnMissed.bits32 : waitsOk laws_FnMissed.T32.2 laws_FnMissed.B32 = true := by kernel_rfl
end Go.Proofs.Ytmheflciiodhdaa.P
/- FnMissed: a walk that has been missed is told, and what is told explains what has been seen. -/
namespace Go.Proofs.Ytmheflciiodhdaa.P
open Go.RowKit Go.Proofs.YtmheflciiodhdaaW.PrintWords Go.Proofs.YtmheflciiodhdaaW.PrintLast Go.Proofs.YtmheflciiodhdaaW.PrintMore
set_option linter.unusedVariables false
theorem samePairs_ev (xs : List S40) (hn : xs.length ≤ 1048576) : Ev (fun k => spec_SamePairs.f k xs xs) true := by
  have key := Ev.loop (fun k (_ : Unit) i => spec_SamePairs.l0 k xs xs i) xs.length (fun _ _ => True) true ?_ ?_ xs.length 0 () (by omega) trivial
  · refine Ev.congr (fun k => ?_) key
    unfold spec_SamePairs.f
    rw [if_pos rfl]; simp
  · intro i s hi _
    refine ⟨(), trivial, fun h => Ev.step (fun k => ?_) h⟩
    simp only [spec_SamePairs.l0]
    rw [if_pos (by omega), if_pos (by omega), if_pos (by omega), if_pos trivial, if_pos trivial, w64 (by omega) (by omega)]
  · exact fun _ _ => Ev.one (fun k => by simp only [spec_SamePairs.l0]; rw [if_neg (by omega)])
theorem hasPair_ev (xs : List S40) (hn : xs.length ≤ 1048576) (a b : Int) (h : (⟨a, b⟩ : S40) ∈ xs) : Ev (fun k => spec_HasPair.f k xs a b) true := by
  obtain ⟨j, hj, he⟩ := List.getElem_of_mem h
  have loop : ∀ (d i : Nat), i + d = j → Ev (fun k => spec_HasPair.l0 k xs (i : Int) a b) true := by
    intro d
    induction d with
    | zero =>
      intro i hi
      obtain rfl : i = j := by omega
      have e : rd_T40 xs (i : Int) = ⟨a, b⟩ := by simp [rd_T40, hj, he]
      exact Ev.one (fun k => by simp only [spec_HasPair.l0, e]; rw [if_pos (by omega), if_pos (by omega)]; simp)
    | succ d ih =>
      intro i hi
      have hh := ih (i + 1) (by omega)
      by_cases e0 : (rd_T40 xs (i : Int)).f0 = a
      · by_cases e1 : (rd_T40 xs (i : Int)).f1 = b
        · exact Ev.one (fun k => by simp only [spec_HasPair.l0]; rw [if_pos (by omega), if_pos (by omega), if_pos e0, if_pos e1])
        · refine Ev.step (fun k => ?_) hh
          simp only [spec_HasPair.l0]
          rw [if_pos (by omega), if_pos (by omega), if_pos e0, if_neg e1, w64 (by omega) (by omega)]; simp
      · refine Ev.step (fun k => ?_) hh
        simp only [spec_HasPair.l0]
        rw [if_pos (by omega), if_pos (by omega), if_neg e0, w64 (by omega) (by omega)]; simp
  have := loop j 0 (by omega)
  unfold spec_HasPair.f
  simpa using this
/-- What is told, in order: of walkers from the i-th on. -/
structure MissOk (ws : List S38) (row seen : List Int) (day : Int) (o : List S40) : Prop where
  ent : ∀ p ∈ o, 0 ≤ p.f0 ∧ p.f0 < ws.length ∧ 0 ≤ p.f1 ∧ p.f1 ≤ day ∧ onB (rd_T38 ws p.f0) p.f1 = true ∧ backRow (rd_T38 ws p.f0) row = seen
  ord : o.Pairwise fun p q => p.f0 < q.f0 ∨ p.f0 = q.f0 ∧ p.f1 < q.f1
theorem daysOn_ok {ws : List S38} {row seen : List Int} {day : Int} (i : Nat) (hi : i < ws.length) (hb : backRow (rd_T38 ws i) row = seen) :
    ∀ (n : Nat) (d : Int) (acc : List S40), 0 ≤ d → d + n ≤ day + 1 → MissOk ws row seen day acc → (∀ p ∈ acc, p.f0 < i ∨ p.f0 = i ∧ p.f1 < d) →
      MissOk ws row seen day (daysOn (rd_T38 ws i) i n d acc) ∧ (∀ p ∈ daysOn (rd_T38 ws i) i n d acc, p.f0 ≤ i) ∧ (∀ p ∈ acc, p ∈ daysOn (rd_T38 ws i) i n d acc) ∧ (∀ e, d ≤ e → e < d + n → onB (rd_T38 ws i) e = true → (⟨(i : Int), e⟩ : S40) ∈ daysOn (rd_T38 ws i) i n d acc)
  | 0, d, acc, _, _, h, ha => ⟨h, fun p hp => by rcases ha p hp with h | h <;> omega, fun p hp => hp, fun e h0 h1 => by omega⟩
  | n + 1, d, acc, h0, h1, h, ha => by
    simp only [daysOn]
    by_cases hon : onB (rd_T38 ws i) d = true
    · rw [if_pos hon]
      have ih := daysOn_ok (day := day) i hi hb n (d + 1) (acc ++ [⟨i, d⟩]) (by omega) (by omega) ⟨fun p hp => by
          rcases List.mem_append.mp hp with hp | hp
          · exact h.ent p hp
          · simp only [List.mem_singleton] at hp
            subst hp
            exact ⟨by simp, by simp; omega, h0, by simp only; omega, hon, hb⟩, by
          rw [List.pairwise_append]
          refine ⟨h.ord, by simp, fun p hp q hq => ?_⟩
          simp only [List.mem_singleton] at hq
          subst hq
          have := ha p hp
          simp only
          omega⟩ (fun p hp => by
          rcases List.mem_append.mp hp with hp | hp
          · have := ha p hp; omega
          · simp only [List.mem_singleton] at hp
            subst hp
            refine Or.inr ⟨rfl, ?_⟩
            show d < d + 1
            omega)
      obtain ⟨i1, i2, i3, i4⟩ := ih
      refine ⟨i1, i2, fun p hp => i3 p (List.mem_append_left _ hp), fun e e0 e1 he => ?_⟩
      by_cases hd : e = d
      · subst hd; exact i3 _ (by simp)
      · exact i4 e (by omega) (by omega) he
    · rw [if_neg hon]
      obtain ⟨i1, i2, i3, i4⟩ := daysOn_ok i hi hb n (d + 1) acc (by omega) (by omega) h (fun p hp => by have := ha p hp; omega)
      refine ⟨i1, i2, i3, fun e e0 e1 he => ?_⟩
      by_cases hd : e = d
      · subst hd; exact absurd he hon
      · exact i4 e (by omega) (by omega) he
theorem missPure_ok {ws : List S38} {row seen : List Int} {day : Int} (h0 : 0 ≤ day) :
    ∀ (d i : Nat) (acc : List S40), i + d = ws.length → MissOk ws row seen day acc → (∀ p ∈ acc, p.f0 < i) →
      MissOk ws row seen day (missPure row seen day (ws.drop i) i acc) ∧ (∀ p ∈ acc, p ∈ missPure row seen day (ws.drop i) i acc) ∧ (∀ (j : Nat) (e : Int), i ≤ j → j < ws.length → 0 ≤ e → e ≤ day → onB (rd_T38 ws j) e = true → backRow (rd_T38 ws j) row = seen → (⟨(j : Int), e⟩ : S40) ∈ missPure row seen day (ws.drop i) i acc)
  | 0, i, acc, hd, h, ha => by
    obtain rfl : i = ws.length := by omega
    rw [List.drop_length]
    exact ⟨h, fun p hp => hp, fun j e hj hj' => by omega⟩
  | d + 1, i, acc, hd, h, ha => by
    have hi : i < ws.length := by omega
    rw [drop_rdW hi]
    simp only [missPure]
    by_cases hb : backRow (rd_T38 ws i) row = seen
    · rw [if_pos hb]
      obtain ⟨d1, d2, d3, d4⟩ := daysOn_ok i hi hb (day + 1).toNat 0 acc (by omega) (by omega) h (fun p hp => Or.inl (ha p hp))
      obtain ⟨i1, i2, i3⟩ := missPure_ok h0 d (i + 1) _ (by omega) d1 (fun p hp => by have := d2 p hp; omega)
      rw [show ((i + 1 : Nat) : Int) = (i : Int) + 1 by omega] at i1 i2 i3
      refine ⟨i1, fun p hp => i2 p (d3 p hp), fun j e hj hj' e0 e1 he hbj => ?_⟩
      by_cases hij : i = j
      · subst hij; exact i2 _ (d4 e e0 (by omega) he)
      · exact i3 j e (by omega) hj' e0 e1 he hbj
    · rw [if_neg hb]
      obtain ⟨i1, i2, i3⟩ := missPure_ok h0 d (i + 1) acc (by omega) h (fun p hp => by have := ha p hp; omega)
      rw [show ((i + 1 : Nat) : Int) = (i : Int) + 1 by omega] at i1 i2 i3
      refine ⟨i1, i2, fun j e hj hj' e0 e1 he hbj => ?_⟩
      by_cases hij : i = j
      · subst hij; exact absurd hbj hb
      · exact i3 j e (by omega) hj' e0 e1 he hbj
theorem WOk.first0 {b : Int} {x : S38} (h : WOk b x) (t : Int) (ht : -7 ≤ t ∧ t ≤ 7) : WOk b (⟨0, x.f1, x.f2, x.f3, x.f4, t⟩ : S38) := ⟨by simp, h.h1, h.h2, h.h3, h.h4, ht⟩
theorem onZ_first0 (x : S38) (t : Int) : onZ (⟨0, x.f1, x.f2, x.f3, x.f4, t⟩ : S38) 0 = 1 := by
  simp [onZ, onB]
theorem day_back {x : S38} (row : List Int) : rowBy (fun y => onZ y 0) [(⟨0, x.f1, x.f2, x.f3, x.f4, -x.f5⟩ : S38)] row = backRow x row := by
  rw [rowBy_cong (fun y => onZ y 0) (fun _ => 1) _ _ (by simpa using onZ_first0 x (-x.f5))]
  refine ext_rd (by simp [rowBy_len, backRow]) (fun i hi => ?_)
  rw [rowBy_len] at hi
  rw [backRow, rowBy_rd hi, rowBy_rd hi, sumAt, sumAt, sumAt, sumAt]
  have : rd (vis row.length (⟨0, x.f1, x.f2, x.f3, x.f4, -x.f5⟩ : S38)) i = rd (vis row.length x) i := rfl
  rw [this]
  congr 1
  simp only [Int.mul_neg, Int.neg_mul, Int.one_mul]
theorem day_forth {x : S38} {row : List Int} (hr : ∀ y ∈ row, 0 ≤ y ∧ y ≤ 7) : rowBy (fun y => onZ y 0) [(⟨0, x.f1, x.f2, x.f3, x.f4, x.f5⟩ : S38)] (backRow x row) = row := by
  rw [rowBy_cong (fun y => onZ y 0) (fun _ => 1) _ _ (by simpa using onZ_first0 x x.f5)]
  refine ext_rd (by simp [rowBy_len, backRow]) (fun i hi => ?_)
  have hi' : i < row.length := by simpa [rowBy_len, backRow] using hi
  have hl : (backRow x row).length = row.length := by simp [backRow, rowBy_len]
  rw [rowBy_rd (by omega), hl, backRow, rowBy_rd hi', sumAt, sumAt, sumAt, sumAt]
  have : rd (vis row.length (⟨0, x.f1, x.f2, x.f3, x.f4, x.f5⟩ : S38)) i = rd (vis row.length x) i := rfl
  rw [this]
  have hb := hr _ (List.getElem_mem hi')
  rw [rd_lt hi'] at *
  simp only [Int.neg_mul, Int.one_mul]
  generalize rd (vis row.length x) i * x.f5 = z
  omega
theorem missed_ok {r seen : List Int} {ws : List S38} {day : Int} (h : RowOk r ws) (hsl : seen.length = r.length) (hs : ∀ y ∈ seen, 0 ≤ y ∧ y ≤ 7) (h0 : 0 ≤ day) (h1 : day ≤ 400) :
    ∃ o, o.length ≤ 1048576 ∧ Ev (fun k => spec_MissedWalks.f k r ws day seen) (o, 0) ∧ Ev (fun k => impl_MissedWalks.f k r ws day seen) (o, 0) ∧ o = missPure (rowBy (fun x => untilZ x day) ws r) seen day ws 0 [] ∧ MissOk ws (rowBy (fun x => untilZ x day) ws r) seen day o ∧
      ∀ (j : Nat) (e : Int), j < ws.length → 0 ≤ e → e ≤ day → onB (rd_T38 ws j) e = true → backRow (rd_T38 ws j) (rowBy (fun x => untilZ x day) ws r) = seen → (⟨(j : Int), e⟩ : S40) ∈ o := by
  have hb := h.hb
  have hb1 := h.hb1
  have h8 := h.h8
  obtain ⟨o, c, hl, hsp, him, hc, ho⟩ := missed_both r seen ws day (fun x hx => by have := h.hr x hx; omega) (RowOk.wt (by omega) h.hw) (by omega) (by omega) (by omega)
  have hc0 : c = 0 := by
    rw [hc]
    simp only [missCode]
    have e1 : ((seen.length : Int) == (r.length : Int)) = true := by simp [hsl]
    have e2 : validRow seen = true := validRow_of (by omega) (by omega) hs
    have e3 : inR 0 400 day = true := inR_iff.mpr ⟨h0, h1⟩
    simp [h.B, e1, e2, e3, codeB]
  subst hc0
  have ho := ho rfl
  have := missPure_ok (ws := ws) (row := rowBy (fun x => untilZ x day) ws r) (seen := seen) h0 ws.length 0 [] (by omega) ⟨by simp, by simp⟩ (by simp)
  rw [List.drop_zero] at this
  obtain ⟨m1, -, m3⟩ := this
  refine ⟨o, hl, hsp, him, ho, by rw [ho]; exact m1, fun j e hj e0 e1 he hbj => ?_⟩
  rw [ho]
  exact m3 j e (by omega) hj e0 e1 he hbj
theorem FnMissed_src {c d : List Int} (hc : SrcOk c) (hd : SrcOk d) : Ev (fun k => laws_FnMissed.j0 k c d false) true := by
  obtain ⟨r, hrow, r1, r7, hr⟩ := drawnRow_ev hc
  obtain ⟨ws, hws, w3, hw, hdr⟩ := drawnWalkers_ev hd (n := r.length) (by omega) (by omega)
  obtain ⟨day, hday, d0, d1⟩ := P6Pick_ok hd 30
  replace d1 := d1 (by omega)
  have ok : RowOk r ws := ⟨r1, by omega, hr, hw, by omega⟩
  refine Ev.step (fun k => by rw [laws_FnMissed.j0, if_neg (by simp)]) ?_
  refine Ev.bind hrow (Ev.bind hws ?_)
  simp only [hday, Option.bind_some]
  have hwhole := specRowOn_ok ok d0 (by omega)
  generalize hW : rowBy (fun x => untilZ x day) ws r = W at hwhole
  have hWl : W.length = r.length := by rw [← hW, rowBy_len]
  have hWb : ∀ y ∈ W, 0 ≤ y ∧ y ≤ 7 := by rw [← hW]; exact rowBy_bd _ _ _
  obtain ⟨o, ol, os, oi, om, -, -⟩ := missed_ok ok hWl hWb d0 (by omega)
  refine Ev.bind hwhole (Ev.bind oi (Ev.bind os ?_))
  simp only [if_true]
  refine Ev.bind (samePairs_ev o ol) ?_
  refine Ev.step (fun k => by rw [laws_FnMissed.j1, if_neg (by decide)]) ?_
  by_cases hl0 : (ws.length : Int) = 0
  · have : ws = [] := List.length_eq_zero_iff.mp (by omega)
    subst this
    have : o = [] := by rw [om]; rfl
    subst this
    exact Ev.some (fun k => by rw [if_pos hl0]; rfl)
  simp only [if_neg hl0]
  obtain ⟨j, hj, j0, j1⟩ := P6Pick_ok hc (ws.length : Int)
  replace j1 := j1 (by omega)
  obtain ⟨j, rfl⟩ : ∃ n : Nat, j = n := ⟨j.toNat, by omega⟩
  simp only [hj, Option.bind_some, if_pos j0, if_pos j1]
  have hmem : rd_T38 ws (j : Int) ∈ ws := by simp [rd_T38, show j < ws.length by omega]
  have hx := hw _ hmem
  generalize hxx : rd_T38 ws (j : Int) = x at *
  have x0 := hx.h0
  have x5 := hx.h5
  rw [w64 (x := x.f0) (by omega) (by omega), w8 (x := -x.f5) (by omega) (by omega)]
  by_cases hlate : x.f0 > day
  · exact Ev.some (fun k => by rw [if_pos hlate])
  simp only [if_neg hlate]
  have okb : RowOk W [(⟨0, x.f1, x.f2, x.f3, x.f4, -x.f5⟩ : S38)] := ⟨by omega, by omega, hWb, by
    intro y hy
    simp only [List.mem_singleton] at hy
    subst hy
    rw [hWl]
    exact hx.first0 _ (by omega), by simp⟩
  have hseen := specDayOf_ok okb (d := 0) (by omega) (by omega)
  rw [day_back] at hseen
  have hSl : (backRow x W).length = r.length := by rw [backRow, rowBy_len]; exact hWl
  have hSb : ∀ y ∈ backRow x W, 0 ≤ y ∧ y ≤ 7 := rowBy_bd _ _ _
  obtain ⟨p, pl, ps, pi, pm, pok, phas⟩ := missed_ok ok hSl hSb d0 (by omega)
  rw [hW] at pok phas
  have hin : (⟨(j : Int), x.f0⟩ : S40) ∈ p := by
    refine phas j x.f0 (by omega) x0.1 (by omega) ?_ (by rw [hxx])
    rw [hxx]; simp [onB]
  refine Ev.bind hseen (Ev.bind pi (Ev.bind ps ?_))
  simp only [if_true]
  refine Ev.bind (samePairs_ev p pl) ?_
  simp only [if_true]
  refine Ev.bind (hasPair_ev p pl _ _ hin) ?_
  refine Ev.step (fun k => by rw [laws_FnMissed.j2, if_neg (by decide)]) ?_
  clear hin phas pm ps pi hseen os oi om
  -- each pair that is told
  have loop : ∀ (d i : Nat), i + d = p.length → Ev (fun k => laws_FnMissed.l0 k (r.length : Int) ws day W (backRow x W) p (i : Int)) true := by
    intro d
    induction d with
    | zero =>
      intro i hi
      exact Ev.one (fun k => by simp only [laws_FnMissed.l0]; rw [if_neg (by omega)])
    | succ d ih =>
      intro i hi
      have hh := ih (i + 1) (by omega)
      have hip : i < p.length := by omega
      have eq_ : rd_T40 p (i : Int) = p[i] := by simp [rd_T40, hip]
      obtain ⟨q0, q1, q2, q3, qon, qb⟩ := pok.ent p[i] (List.getElem_mem hip)
      generalize hq : p[i] = q at *
      obtain ⟨m, hm⟩ : ∃ m : Nat, q.f0 = m := ⟨q.f0.toNat, by omega⟩
      have hymem : rd_T38 ws q.f0 ∈ ws := by rw [hm]; simp [rd_T38, show m < ws.length by omega]
      have hy := hw _ hymem
      generalize hrd : rd_T38 ws q.f0 = y at *
      have y5 := hy.h5
      have oky : RowOk (backRow x W) [(⟨0, y.f1, y.f2, y.f3, y.f4, y.f5⟩ : S38)] := ⟨by omega, by omega, hSb, by
        intro z hz
        simp only [List.mem_singleton] at hz
        subst hz
        rw [hSl]
        exact hy.first0 _ (by omega), by simp⟩
      have hon := implWalksOn_ok (b := (r.length : Int)) (by omega) (by omega) hy q2 (by omega)
      rw [qon] at hon
      have hag := implDayOf_ok oky (d := 0) (by omega) (by omega)
      rw [show rowBy (fun y => onZ y 0) [(⟨0, y.f1, y.f2, y.f3, y.f4, y.f5⟩ : S38)] (backRow x W) = W by rw [← qb]; exact day_forth hWb] at hag
      have hord : ∀ h : 0 < i, (p[i - 1].f0 < q.f0 ∨ p[i - 1].f0 = q.f0 ∧ p[i - 1].f1 < q.f1) := fun h => by
        have := List.pairwise_iff_getElem.mp pok.ord (i - 1) i (by omega) hip (by omega)
        rw [hq] at this; exact this
      have tail : Ev (fun k => laws_FnMissed.j4 k (r.length : Int) ws day W (backRow x W) p (i : Int) q.f0 false) true := by
        refine Ev.step (fun k => by rw [laws_FnMissed.j4, if_neg (by simp), if_pos q0, if_pos q1, if_pos (by omega), if_pos (by omega)]) ?_
        simp only [eq_, hrd]
        rw [hon]
        simp only [Option.bind_some, if_true]
        rw [decide_eq_false (by omega)]
        refine Ev.step (fun k => by rw [laws_FnMissed.j5, if_neg (by simp), if_pos q0, if_pos q1]) ?_
        simp only [hrd]
        refine Ev.bind hag ?_
        simp only [if_true]
        refine Ev.bind (specSame_ev W W (by omega)) ?_
        simp only [decide_true, if_true]
        rw [w64 (by omega) (by omega)]
        simpa using hh
      refine Ev.step (f := fun k => laws_FnMissed.j4 k (r.length : Int) ws day W (backRow x W) p (i : Int) q.f0 false) (fun k => ?_) tail
      simp only [laws_FnMissed.l0]
      rw [if_pos (by omega), if_pos (by omega), eq_, if_neg (by omega), if_neg (by omega)]
      by_cases hi0 : i = 0
      · rw [if_neg (by omega)]
      · have ho := hord (by omega)
        have e2 : rd_T40 p ((i : Int) - 1) = p[i - 1] := by
          rw [show (i : Int) - 1 = ((i - 1 : Nat) : Int) by omega]
          simp [rd_T40, show i - 1 < p.length by omega]
        rw [if_pos (by omega), w64 (x := (i : Int) - 1) (by omega) (by omega), if_pos (by omega), if_pos (by omega), e2, if_neg (by omega)]
        by_cases he : q.f0 = p[i - 1].f0
        · rw [if_pos he, decide_eq_false (by omega)]
        · rw [if_neg he]
  have := loop p.length 0 (by omega)
  simpa using this
theorem SrcOk.of {c : List Int} (g : ∀ x ∈ c, (0 ≤ x ∧ x ≤ 255)) (h : ¬ (c.length : Int) > 4096) : SrcOk c := ⟨g, by omega⟩
theorem FnMissed_ev (a0 : List Int) (a1 : List Int) (g0 : (∀ x ∈ a0, (0 ≤ x ∧ x ≤ 255))) (b0 : a0.length ≤ 9223372036854775807) (g1 : (∀ x ∈ a1, (0 ≤ x ∧ x ≤ 255))) (b1 : a1.length ≤ 9223372036854775807) : Ev (fun k => laws_FnMissed.f k a0 a1) true := by
  unfold laws_FnMissed.f
  simp only [laws_f6big.f, Option.bind_some, decide_eq_true_eq]
  have big : Ev (fun k => laws_FnMissed.j0 k a0 a1 true) true := Ev.one (fun k => by rw [laws_FnMissed.j0, if_pos rfl])
  by_cases h0 : (a0.length : Int) > 4096
  · simpa only [if_pos h0] using big
  · simp only [if_neg h0]
    by_cases h1 : (a1.length : Int) > 4096
    · simpa only [decide_eq_true h1] using big
    · simp only [decide_eq_false h1]
      exact FnMissed_src (SrcOk.of g0 h0) (SrcOk.of g1 h1)
end Go.Proofs.Ytmheflciiodhdaa.P
/- The walk of FnMissed. -/
namespace Go.Proofs.Ytmheflciiodhdaa.P
open Go.RowKit Go.Proofs.YtmheflciiodhdaaW.PrintWords Go.Proofs.YtmheflciiodhdaaW.PrintLast Go.Proofs.YtmheflciiodhdaaW.PrintMore
attribute [local go_sem] max2_int min2_int max_two min_two max_three min_three max_four min_four
set_option linter.unusedVariables false
set_option linter.unusedSimpArgs false
namespace FnMissed
theorem auC {p : Prop} (h : p := by repeat (first | (with_reducible exact HS0.out.r) | (with_reducible exact HS1.out.r) | (with_reducible exact HS5.out.r) | (with_reducible exact HS7.out.r) | (with_reducible exact HS9.out.r) | (with_reducible exact HS11.out.r) | (with_reducible exact HS13.out.r) | (with_reducible exact HSt114.out.r) | (with_reducible exact HS18.out.r) | (with_reducible exact HS20.out.r) | (with_reducible exact HS22.out.r) | (with_reducible exact HSt255.out.r) | (with_reducible exact HS29.out.r) | (with_reducible refine Kd.C_below ?_ HB8a.out) | (with_reducible refine Kd.C_below ?_ HB8b.out) | (with_reducible refine Kd.C_below ?_ HB8c.out) | (with_reducible refine Kd.C_below ?_ HB8d.out) | (with_reducible refine Kd.C_below ?_ HB8e.out) | (with_reducible refine Kd.C_below ?_ HB9.out) | (with_reducible refine Kd.C_below ?_ HB10.out) | (with_reducible refine Kd.C_below ?_ HB11.out) | (with_reducible refine Kd.C_below ?_ HB12.out) | (with_reducible refine Kd.C_below ?_ HB13.out) | (with_reducible refine Kd.C_below ?_ HB14.out) | (with_reducible refine Kd.C_below ?_ HB15z.out) | (with_reducible refine Kd.C_below ?_ HB15y.out) | (with_reducible refine Kd.C_below ?_ HB16y.out) | (with_reducible refine Kd.C_below ?_ HBay.out) | (with_reducible refine Kd.C_below ?_ HBby.out) | (with_reducible refine Kd.C_below ?_ HB15m.out) | (with_reducible refine Kd.C_below ?_ HB16m.out) | (with_reducible refine Kd.C_below ?_ HBam.out) | (with_reducible refine Kd.C_below ?_ HBbm.out) | (with_reducible refine Kd.C_below ?_ HBcm.out) | (with_reducible refine Kd.C_below ?_ HBdm.out) | (with_reducible refine Kd.C_below ?_ HBem.out) | (with_reducible refine Kd.C_below ?_ HBfm.out) | (with_reducible refine Kd.C_below ?_ HBgm.out) | (with_reducible refine Kd.C_below ?_ HB18.out) | (with_reducible refine Kd.C_below ?_ HB20.out) | (with_reducible refine Kd.C_below ?_ HB22.out) | (with_reducible refine Kd.C_below ?_ HB23.out) | (with_reducible refine Kd.C_below ?_ HB24.out) | (with_reducible refine Kd.C_below ?_ HBl.out) | (with_reducible refine Kd.C_below ?_ HBc.out) | (with_reducible refine Kd.C_below ?_ HB31.out) | (with_reducible refine Kd.C_below ?_ HB32.out) | (with_reducible refine Kd.C_below ?_ HBh.out) | (with_reducible refine Kd.C_below ?_ HBi.out) | (with_reducible refine Kd.C_below ?_ HBj.out) | (with_reducible refine Kd.C_below ?_ HBk.out) | (with_reducible refine Kd.C_below ?_ HB37.out) | (with_reducible refine Kd.C_below ?_ HB38.out) | (with_reducible refine Kd.C_alloc ?_ _) | (with_reducible refine Kd.C_drewN ?_ _) | (with_reducible refine Kd.C_drew ?_))) : p := h
theorem auL {p : Prop} (h : p := by repeat (first | (with_reducible exact HS0.out.l) | (with_reducible exact HS1.out.l) | (with_reducible exact HS5.out.l) | (with_reducible exact HS7.out.l) | (with_reducible exact HS9.out.l) | (with_reducible exact HS11.out.l) | (with_reducible exact HS13.out.l) | (with_reducible exact HSt114.out.l) | (with_reducible exact HS18.out.l) | (with_reducible exact HS20.out.l) | (with_reducible exact HS22.out.l) | (with_reducible exact HSt255.out.l) | (with_reducible exact HS29.out.l))) : p := h
theorem auE {p : Prop} (h : p := by repeat (first | (with_reducible exact Below.refl _ _) | (with_reducible refine below_step ?_ HB8a.out) | (with_reducible refine below_step ?_ HB8b.out) | (with_reducible refine below_step ?_ HB8c.out) | (with_reducible refine below_step ?_ HB8d.out) | (with_reducible refine below_step ?_ HB8e.out) | (with_reducible refine below_step ?_ HB9.out) | (with_reducible refine below_step ?_ HB10.out) | (with_reducible refine below_step ?_ HB11.out) | (with_reducible refine below_step ?_ HB12.out) | (with_reducible refine below_step ?_ HB13.out) | (with_reducible refine below_step ?_ HB14.out) | (with_reducible refine below_step ?_ HB15z.out) | (with_reducible refine below_step ?_ HB15y.out) | (with_reducible refine below_step ?_ HB16y.out) | (with_reducible refine below_step ?_ HBay.out) | (with_reducible refine below_step ?_ HBby.out) | (with_reducible refine below_step ?_ HB15m.out) | (with_reducible refine below_step ?_ HB16m.out) | (with_reducible refine below_step ?_ HBam.out) | (with_reducible refine below_step ?_ HBbm.out) | (with_reducible refine below_step ?_ HBcm.out) | (with_reducible refine below_step ?_ HBdm.out) | (with_reducible refine below_step ?_ HBem.out) | (with_reducible refine below_step ?_ HBfm.out) | (with_reducible refine below_step ?_ HBgm.out) | (with_reducible refine below_step ?_ HB18.out) | (with_reducible refine below_step ?_ HB20.out) | (with_reducible refine below_step ?_ HB22.out) | (with_reducible refine below_step ?_ HB23.out) | (with_reducible refine below_step ?_ HB24.out) | (with_reducible refine below_step ?_ HBl.out) | (with_reducible refine below_step ?_ HBc.out) | (with_reducible refine below_step ?_ HB31.out) | (with_reducible refine below_step ?_ HB32.out) | (with_reducible refine below_step ?_ HBh.out) | (with_reducible refine below_step ?_ HBi.out) | (with_reducible refine below_step ?_ HBj.out) | (with_reducible refine below_step ?_ HBk.out) | (with_reducible refine below_step ?_ HB37.out) | (with_reducible refine below_step ?_ HB38.out) | (with_reducible refine pw_below_drewN ?_ _) | (with_reducible refine below_drew1 ?_) | (with_reducible refine below_alloc ?_ _))) : p := h
theorem auB {p : Prop} (h : p := by repeat (first | (with_reducible exact Below.refl _ _) | (with_reducible refine below_alloc ?_ _) | (with_reducible refine pw_below_drewN ?_ _) | (with_reducible refine below_drew1 ?_))) : p := h
theorem auK {p : Prop} (h : p := by repeat (first | (with_reducible exact BK16.out) | (with_reducible refine blk_below ?_ HB8a.out) | (with_reducible refine blk_below ?_ HB8b.out) | (with_reducible refine blk_below ?_ HB8c.out) | (with_reducible refine blk_below ?_ HB8d.out) | (with_reducible refine blk_below ?_ HB8e.out) | (with_reducible refine blk_below ?_ HB9.out) | (with_reducible refine blk_below ?_ HB10.out) | (with_reducible refine blk_below ?_ HB11.out) | (with_reducible refine blk_below ?_ HB12.out) | (with_reducible refine blk_below ?_ HB13.out) | (with_reducible refine blk_below ?_ HB14.out) | (with_reducible refine blk_below ?_ HB15z.out) | (with_reducible refine blk_below ?_ HB15y.out) | (with_reducible refine blk_below ?_ HB16y.out) | (with_reducible refine blk_below ?_ HBay.out) | (with_reducible refine blk_below ?_ HBby.out) | (with_reducible refine blk_below ?_ HB15m.out) | (with_reducible refine blk_below ?_ HB16m.out) | (with_reducible refine blk_below ?_ HBam.out) | (with_reducible refine blk_below ?_ HBbm.out) | (with_reducible refine blk_below ?_ HBcm.out) | (with_reducible refine blk_below ?_ HBdm.out) | (with_reducible refine blk_below ?_ HBem.out) | (with_reducible refine blk_below ?_ HBfm.out) | (with_reducible refine blk_below ?_ HBgm.out) | (with_reducible refine blk_below ?_ HB18.out) | (with_reducible refine blk_below ?_ HB20.out) | (with_reducible refine blk_below ?_ HB22.out) | (with_reducible refine blk_below ?_ HB23.out) | (with_reducible refine blk_below ?_ HB24.out) | (with_reducible refine blk_below ?_ HBl.out) | (with_reducible refine blk_below ?_ HBc.out) | (with_reducible refine blk_below ?_ HB31.out) | (with_reducible refine blk_below ?_ HB32.out) | (with_reducible refine blk_below ?_ HBh.out) | (with_reducible refine blk_below ?_ HBi.out) | (with_reducible refine blk_below ?_ HBj.out) | (with_reducible refine blk_below ?_ HBk.out) | (with_reducible refine blk_below ?_ HB37.out) | (with_reducible refine blk_below ?_ HB38.out) | (with_reducible refine blk_drewN ?_ _) | (with_reducible refine blk_drew ?_) | (with_reducible refine blk_alloc ?_ _))) : p := h
set_option maxHeartbeats 8000000 in
set_option maxRecDepth 100000 in
theorem walk (A0 : Option Addr) (c0 : Nat) (l0 : List Int) (A1 : Option Addr) (c1 : Nat) (l1 : List Int) (w : World) (hr0 : Kd.C (Kd.int .u8) w A0 l0.length l0) (hc0 : l0.length ≤ c0) (hr1 : Kd.C (Kd.int .u8) w A1 l1.length l1) (hc1 : l1.length ≤ c1) (g0 : ∀ x ∈ l0, 0 ≤ x ∧ x ≤ 255) (b0 : l0.length ≤ 9223372036854775807) (g1 : ∀ x ∈ l1, 0 ≤ x ∧ x ≤ 255) (b1 : l1.length ≤ 9223372036854775807) :
    Calls Try.prog 3 #[.slice A0 l0.length c0, .slice A1 l1.length c1] w fun e w' => e = .returned (.bool true) ∧ Below w.heap.size w w' := by
  have HS0 := Aside0.mk (Sl.mk hr0 hc0)
  have HS1 := Aside0.mk (Sl.mk hr1 hc1)
  clear hr0 hc0 hr1 hc1
  have hu := Try.underlying38
  have hu2 := Try.underlying40
  by_cases h0 : (l0.length : Int) > 4096
  · have H8 := Aside0.mk (show laws_f6big.f l0 = some true by simp only [laws_f6big.f]; rw [decide_eq_true h0])
    clear h0
    go_enter Try.func3, Try.ntmps3
    go_wp2_with (go_at_call 8; (with_reducible refine (laws_f6big.calls _ _ l0 true _ auC auL H8.out).mono ?_); rintro e w8a ⟨rfl, hb⟩; replace hb := drawn_below hb; (have HB8a := Aside0.mk (below_step (show Below w.heap.size w _ from auB) hb)); clear hb)
    go_ret
    exact ⟨rfl, auE⟩
  have H8 := Aside0.mk (show laws_f6big.f l0 = some false by simp only [laws_f6big.f]; rw [decide_eq_false h0])
  by_cases h1 : (l1.length : Int) > 4096
  · have H8b := Aside0.mk (show laws_f6big.f l1 = some true by simp only [laws_f6big.f]; rw [decide_eq_true h1])
    clear h0 h1
    go_enter Try.func3, Try.ntmps3
    go_wp2_with (go_at_call 8; (with_reducible refine (laws_f6big.calls _ _ l0 false _ auC auL H8.out).mono ?_); rintro e w8b ⟨rfl, hb⟩; replace hb := drawn_below hb; (have HB8b := Aside0.mk (below_step (show Below w.heap.size w _ from auB) hb)); clear hb)
    go_wp2_with (go_at_call 8; (with_reducible refine (laws_f6big.calls _ _ l1 true _ auC auL H8b.out).mono ?_); rintro e w8c ⟨rfl, hb⟩; replace hb := drawn_below hb; (have HB8c := Aside0.mk (below_step (show Below w8b.heap.size w8b _ from auB) hb)); clear hb)
    go_ret
    exact ⟨rfl, auE⟩
  have H8b := Aside0.mk (show laws_f6big.f l1 = some false by simp only [laws_f6big.f]; rw [decide_eq_false h1])
  have hc := SrcOk.of g0 h0
  have hd := SrcOk.of g1 h1
  obtain ⟨r, hrow, r1, r7, hr⟩ := drawnRow_ev hc
  obtain ⟨ws, hws, w3, hw, hdr⟩ := drawnWalkers_ev hd (n := r.length) (by omega) (by omega)
  obtain ⟨day, hday, d0, d1⟩ := P6Pick_ok hd 30
  replace d1 := d1 (by omega)
  have ok : RowOk r ws := ⟨r1, by omega, hr, hw, by omega⟩
  have hwhole := specRowOn_ok ok d0 (by omega)
  generalize hW : rowBy (fun x => untilZ x day) ws r = V at hwhole
  have hWl : V.length = r.length := by rw [← hW, rowBy_len]
  have hWb : ∀ y ∈ V, 0 ≤ y ∧ y ≤ 7 := by rw [← hW]; exact rowBy_bd _ _ _
  obtain ⟨o, ol, os, oi, om, -, -⟩ := missed_ok ok hWl hWb d0 (by omega)
  obtain ⟨kr9, H9⟩ := Ev.rounds (hrow)
  obtain ⟨kr10, H10⟩ := Ev.rounds (hws)
  obtain ⟨kr12, H12⟩ := Ev.rounds (hwhole)
  obtain ⟨kr13, H13⟩ := Ev.rounds (oi)
  obtain ⟨kr14, H14⟩ := Ev.rounds (os)
  obtain ⟨kr15, H15⟩ := Ev.rounds ((samePairs_ev o ol))
  replace H9 := Aside0.mk H9
  replace H10 := Aside0.mk H10
  have H11 := Aside0.mk hday
  replace H12 := Aside0.mk H12
  replace H13 := Aside0.mk H13
  replace H14 := Aside0.mk H14
  replace H15 := Aside0.mk H15
  have HP := Aside0.mk (And.intro hc (And.intro hd (And.intro r1 (And.intro r7 (And.intro hr (And.intro w3 (And.intro hw (And.intro d0 (And.intro d1 (And.intro ok (And.intro hW (And.intro hWl (And.intro hWb om)))))))))))))
  clear h0 h1 hc hd r1 r7 hr w3 hw hdr d0 d1 ok hW hWl hWb ol om hrow hws hday hwhole oi os
  go_enter Try.func3, Try.ntmps3
  go_wp2_with (go_at_call 8; (with_reducible refine (laws_f6big.calls _ _ l0 false _ auC auL H8.out).mono ?_); rintro e w8d ⟨rfl, hb⟩; replace hb := drawn_below hb; (have HB8d := Aside0.mk (below_step (show Below w.heap.size w _ from auB) hb)); clear hb)
  go_wp2_with (go_at_call 8; (with_reducible refine (laws_f6big.calls _ _ l1 false _ auC auL H8b.out).mono ?_); rintro e w8e ⟨rfl, hb⟩; replace hb := drawn_below hb; (have HB8e := Aside0.mk (below_step (show Below w8d.heap.size w8d _ from auB) hb)); clear hb)
  go_wp2_with (go_at_call 9; (with_reducible refine (spec_P6Row.calls kr9 _ _ l0 r _ auC auL H9.out).mono ?_); rintro e w9 ⟨v5, rfl, ho5, hb⟩; obtain ⟨A5, c5, rfl, hs5⟩ := ret_sl ho5; (have HS5 := Aside0.mk hs5); clear ho5 hs5; (have HB9 := Aside0.mk (below_step (show Below w8e.heap.size w8e _ from auB) hb)); clear hb)
  go_wp2_with (go_at_call 10; (with_reducible refine (spec_P6Walkers.calls kr10 _ _ l1 _ ws _ auC auL H10.out).mono ?_); rintro e w10 ⟨v7, rfl, ho7, hb⟩; obtain ⟨A7, c7, rfl, hs7⟩ := ret_sl ho7; (have HS7 := Aside0.mk hs7); clear ho7 hs7; (have HB10 := Aside0.mk (below_step (show Below w9.heap.size w9 _ from auB) hb)); clear hb)
  go_wp2_with (go_at_call 11; (with_reducible refine (spec_P6Pick.calls _ _ l1 30 day _ auC auL H11.out).mono ?_); rintro e w11 ⟨rfl, hb⟩; (have HB11 := Aside0.mk (below_step (show Below w10.heap.size w10 _ from auB) hb)); clear hb)
  go_wp2_with (go_at_call 12; (with_reducible refine (spec_RowOn.calls kr12 _ _ r _ _ ws day V 0 _ auC auL auC auL H12.out).mono ?_); rintro e w12 ⟨v9, rfl, ho9, hb⟩; obtain ⟨A9, c9, rfl, hs9⟩ := ret_sl ho9; (have HS9 := Aside0.mk hs9); clear ho9 hs9; (have HB12 := Aside0.mk (below_step (show Below w11.heap.size w11 _ from auB) hb)); clear hb)
  go_wp2_with (go_at_call 13; (with_reducible refine (impl_MissedWalks.calls kr13 _ _ r _ _ ws day _ _ V o 0 _ auC auL auC auL auC auL H13.out).mono ?_); rintro e w13 ⟨v11, rfl, ho11, hb⟩; obtain ⟨A11, c11, rfl, hs11⟩ := ret_sl ho11; (have HS11 := Aside0.mk hs11); clear ho11 hs11; (have HB13 := Aside0.mk (below_step (show Below w12.heap.size w12 _ from auB) hb)); clear hb)
  go_wp2_with (go_at_call 14; (with_reducible refine (spec_MissedWalks.calls kr14 _ _ r _ _ ws day _ _ V o 0 _ auC auL auC auL auC auL H14.out).mono ?_); rintro e w14 ⟨v13, rfl, ho13, hb⟩; obtain ⟨A13, c13, rfl, hs13⟩ := ret_sl ho13; (have HS13 := Aside0.mk hs13); clear ho13 hs13; (have HB14 := Aside0.mk (below_step (show Below w13.heap.size w13 _ from auB) hb)); clear hb)
  by_cases hl0 : ws.length = 0
  · obtain rfl : ws = [] := List.length_eq_zero_iff.mp hl0
    have ho0 : o = [] := by obtain ⟨-, -, -, -, -, -, -, -, -, -, -, -, -, om⟩ := HP.out; rw [om]; rfl
    subst ho0
    go_wp2_with (go_at_call 15; (with_reducible refine (spec_SamePairs.calls kr15 _ _ [] _ _ [] true _ auC auL auC auL H15.out).mono ?_); rintro e w15z ⟨rfl, hb⟩; replace hb := drawn_below hb; (have HB15z := Aside0.mk (below_step (show Below w14.heap.size w14 _ from auB) hb)); clear hb)
    go_ret
    exact ⟨rfl, auE⟩
  obtain ⟨hc, hd, r1, r7, hr, w3, hw, d0, d1, ok, hW, hWl, hWb, om⟩ := HP.out
  obtain ⟨j, hj, j0, j1⟩ := P6Pick_ok hc (ws.length : Int)
  replace j1 := j1 (by omega)
  obtain ⟨j, rfl⟩ : ∃ n : Nat, j = n := ⟨j.toNat, by omega⟩
  have H16 := Aside0.mk hj
  have HJ := Aside0.mk j1
  have hne : ((ws.length : Int) == 0) = false := beq_eq_false_iff_ne.mpr (by omega)
  have hne2 : (ws.length == 0) = false := beq_eq_false_iff_ne.mpr (by omega)
  have hmem : rd_T38 ws (j : Int) ∈ ws := by simp [rd_T38, show j < ws.length by omega]
  have hx := hw _ hmem
  obtain ⟨x, hxx⟩ : ∃ x, rd_T38 ws (j : Int) = x := ⟨_, rfl⟩
  rw [hxx] at hx
  have HX := Aside0.mk hxx
  have x0 := hx.h0
  have x5 := hx.h5
  have e64 : wrap64 x.f0 = x.f0 := w64 (by omega) (by omega)
  have e8 : IntKind.i8.wrap (-x.f5) = -x.f5 := w8 (by omega) (by omega)
  have E64 := Aside0.mk e64
  have E8 := Aside0.mk e8
  by_cases hlate : day < x.f0
  · have q1 := eq_true (show day < wrap64 x.f0 by omega)
    clear hc hd hr hw ok hW hWl hWb om hx x0 x5 hxx hmem
    go_wp2_with (first
      | (go_at_call 15; (with_reducible refine (spec_SamePairs.calls kr15 _ _ o _ _ o true _ auC auL auC auL H15.out).mono ?_); rintro e w15y ⟨rfl, hb⟩; replace hb := drawn_below hb; (have HB15y := Aside0.mk (below_step (show Below w14.heap.size w14 _ from auB) hb)); clear hb)
      | (go_at_call 11; (with_reducible refine (spec_P6Pick.calls _ _ l0 _ (j : Int) _ auC auL H16.out).mono ?_); rintro e w16y ⟨rfl, hb⟩; (have HB16y := Aside0.mk (below_step (show Below w15y.heap.size w15y _ from auB) hb)); clear hb; (have hat := at_T38 (show Kd.C k38 w16y A7 ws.length ws from auC) (j : Int) (by omega) HJ.out); obtain ⟨ad7, rfl, h0, h1, h2, h3, h4, h5⟩ := hat; simp only [Int.toNat_natCast, HX.out] at h0 h1 h2 h3 h4 h5)
      | ((with_reducible refine gate_dst (N := 16) rfl ?_); refine box_event ?hg16 (N := 16) ?hd16 (cs := #[.int .i16 0, .int .i16 0, .int .i16 0, .int .i16 0, .int .i16 0, .int .i8 0]) (t := 38) ?hr16 ?_; (case hd16 => rfl); (case hg16 => rfl); (case hr16 => first | (go_simp; done) | (go_simp; rfl)); intro g16 hg way hbox hb; (have HG16 := Aside0.mk hg); (have HBay := Aside0.mk (below_step (show Below w16y.heap.size w16y _ from auB) hb)); (have BZ16 := Aside0.mk hbox); (have GZ16 := Aside0.mk (show w16y.heap.size ≤ g16 by have := (show Below w16y.heap.size w16y _ from auB).size; rw [hg]; exact this)); clear hb hg hbox; (have hz16_0 : way.cell? ⟨g16, 0, none⟩ = some (.int .i16 0) := (blk_cell BZ16.out 0).trans rfl); (have hf16_0 := blk_frozen BZ16.out 0); (have hz16_1 : way.cell? ⟨g16, 1, none⟩ = some (.int .i16 0) := (blk_cell BZ16.out 1).trans rfl); (have hf16_1 := blk_frozen BZ16.out 1); (have hz16_2 : way.cell? ⟨g16, 2, none⟩ = some (.int .i16 0) := (blk_cell BZ16.out 2).trans rfl); (have hf16_2 := blk_frozen BZ16.out 2); (have hz16_3 : way.cell? ⟨g16, 3, none⟩ = some (.int .i16 0) := (blk_cell BZ16.out 3).trans rfl); (have hf16_3 := blk_frozen BZ16.out 3); (have hz16_4 : way.cell? ⟨g16, 4, none⟩ = some (.int .i16 0) := (blk_cell BZ16.out 4).trans rfl); (have hf16_4 := blk_frozen BZ16.out 4); (have hz16_5 : way.cell? ⟨g16, 5, none⟩ = some (.int .i8 0) := (blk_cell BZ16.out 5).trans rfl); (have hf16_5 := blk_frozen BZ16.out 5))
      | (((with_reducible refine gate_store (t := 38) (p := 16) rfl ?_); refine store_event (t := 38) (p := 16) (v := ?vo16) (w1 := ((((((way.setCell ⟨g16, 0, none⟩ (.int .i16 x.f0)).setCell ⟨g16, 1, none⟩ (.int .i16 x.f1)).setCell ⟨g16, 2, none⟩ (.int .i16 x.f2)).setCell ⟨g16, 3, none⟩ (.int .i16 x.f3)).setCell ⟨g16, 4, none⟩ (.int .i16 x.f4)).setCell ⟨g16, 5, none⟩ (.int .i8 x.f5))) ?hgs16 ?hos16 ?hns16 ?hrs16 ?_; (case hos16 => rfl); (case hgs16 => rfl); (case hns16 => rfl); (case hrs16 => first | (go_simp; done) | (go_simp; rfl)); intro wby hw; (have HBby := Aside0.mk (show Below w16y.heap.size w16y wby by rw [hw]; exact (below_set (below_set (below_set (below_set (below_set (below_set HBay.out GZ16.out) GZ16.out) GZ16.out) GZ16.out) GZ16.out) GZ16.out))); (have BK16 := Aside0.mk (show wby.heap[g16]? = some (.cells #[.int .i16 x.f0, .int .i16 x.f1, .int .i16 x.f2, .int .i16 x.f3, .int .i16 x.f4, .int .i8 x.f5] 38 (0, 0)) by rw [hw]; exact (blk_put (blk_put (blk_put (blk_put (blk_put (blk_put BZ16.out 0 (.int .i16 x.f0) rfl) 1 (.int .i16 x.f1) rfl) 2 (.int .i16 x.f2) rfl) 3 (.int .i16 x.f3) rfl) 4 (.int .i16 x.f4) rfl) 5 (.int .i8 x.f5) rfl))); clear hw BZ16 hz16_0 hf16_0 hz16_1 hf16_1 hz16_2 hf16_2 hz16_3 hf16_3 hz16_4 hf16_4 hz16_5 hf16_5); (have hc16_0 : wby.cell? ⟨g16, 0, none⟩ = some (.int .i16 x.f0) := (blk_cell BK16.out 0).trans rfl); (have hc16_1 : wby.cell? ⟨g16, 1, none⟩ = some (.int .i16 x.f1) := (blk_cell BK16.out 1).trans rfl); (have hc16_2 : wby.cell? ⟨g16, 2, none⟩ = some (.int .i16 x.f2) := (blk_cell BK16.out 2).trans rfl); (have hc16_3 : wby.cell? ⟨g16, 3, none⟩ = some (.int .i16 x.f3) := (blk_cell BK16.out 3).trans rfl); (have hc16_4 : wby.cell? ⟨g16, 4, none⟩ = some (.int .i16 x.f4) := (blk_cell BK16.out 4).trans rfl); (have hc16_5 : wby.cell? ⟨g16, 5, none⟩ = some (.int .i8 x.f5) := (blk_cell BK16.out 5).trans rfl)))
    go_ret
    exact ⟨rfl, auE⟩
  have hlate' : x.f0 ≤ day := by omega
  have q1 := eq_false (show ¬ day < x.f0 by omega)
  have okb : RowOk V [(⟨0, x.f1, x.f2, x.f3, x.f4, -x.f5⟩ : S38)] := ⟨by omega, by omega, hWb, by
    intro y hy
    simp only [List.mem_singleton] at hy
    subst hy
    rw [hWl]
    exact hx.first0 _ (by omega), by simp⟩
  have hseen := specDayOf_ok okb (d := 0) (by omega) (by omega)
  rw [day_back] at hseen
  have hSl : (backRow x V).length = r.length := by rw [backRow, rowBy_len]; exact hWl
  have hSb : ∀ y ∈ backRow x V, 0 ≤ y ∧ y ≤ 7 := rowBy_bd _ _ _
  obtain ⟨q, ql, qs, qi, qm, qok, qhas⟩ := missed_ok ok hSl hSb d0 (by omega)
  rw [hW] at qok qhas
  have hin : (⟨(j : Int), x.f0⟩ : S40) ∈ q := by
    refine qhas j x.f0 (by omega) x0.1 (by omega) ?_ (by rw [hxx])
    rw [hxx]; simp [onB]
  obtain ⟨Z, hZ⟩ : ∃ Z, backRow x V = Z := ⟨_, rfl⟩
  rw [hZ] at hseen hSl hSb qs qi qok
  obtain ⟨Y, hY⟩ : ∃ Y, [(⟨0, x.f1, x.f2, x.f3, x.f4, -x.f5⟩ : S38)] = Y := ⟨_, rfl⟩
  rw [hY] at hseen
  have HY := Aside0.mk hY
  obtain ⟨kr18, H18⟩ := Ev.rounds (hseen)
  obtain ⟨kr20, H20⟩ := Ev.rounds (qi)
  obtain ⟨kr22, H22⟩ := Ev.rounds (qs)
  obtain ⟨kr23, H23⟩ := Ev.rounds (samePairs_ev q ql)
  obtain ⟨kr24, H24⟩ := Ev.rounds (hasPair_ev q ql _ _ hin)
  replace H18 := Aside0.mk H18
  replace H20 := Aside0.mk H20
  replace H22 := Aside0.mk H22
  replace H23 := Aside0.mk H23
  replace H24 := Aside0.mk H24
  have HP2 := Aside0.mk (And.intro r1 (And.intro r7 (And.intro hw (And.intro d0 (And.intro d1 (And.intro hWl (And.intro hWb (And.intro hSl (And.intro hSb (And.intro ql (And.intro qok hx)))))))))))
  clear r1 r7 hw d0 d1 ok hW hWl hWb okb hseen hSl hSb ql qs qi qm qok qhas hin hZ hY hc hd hr om hx x0 x5 hxx hmem w3 hlate hlate' hl0 HP hj
  go_wp2_with (go_at_call 15; (with_reducible refine (spec_SamePairs.calls kr15 _ _ o _ _ o true _ auC auL auC auL H15.out).mono ?_); rintro e w15m ⟨rfl, hb⟩; replace hb := drawn_below hb; (have HB15m := Aside0.mk (below_step (show Below w14.heap.size w14 _ from auB) hb)); clear hb)
  go_wp2_with (first
    | (go_at_call 11; (with_reducible refine (spec_P6Pick.calls _ _ l0 _ (j : Int) _ auC auL H16.out).mono ?_); rintro e w16m ⟨rfl, hb⟩; (have HB16m := Aside0.mk (below_step (show Below w15m.heap.size w15m _ from auB) hb)); clear hb; (have hat := at_T38 (show Kd.C k38 w16m A7 ws.length ws from auC) (j : Int) (by omega) HJ.out); obtain ⟨ad7, rfl, h0, h1, h2, h3, h4, h5⟩ := hat; simp only [Int.toNat_natCast, HX.out] at h0 h1 h2 h3 h4 h5)
    | ((with_reducible refine gate_dst (N := 16) rfl ?_); refine box_event ?hg16 (N := 16) ?hd16 (cs := #[.int .i16 0, .int .i16 0, .int .i16 0, .int .i16 0, .int .i16 0, .int .i8 0]) (t := 38) ?hr16 ?_; (case hd16 => rfl); (case hg16 => rfl); (case hr16 => first | (go_simp; done) | (go_simp; rfl)); intro g16 hg wam hbox hb; (have HG16 := Aside0.mk hg); (have HBam := Aside0.mk (below_step (show Below w16m.heap.size w16m _ from auB) hb)); (have BZ16 := Aside0.mk hbox); (have GZ16 := Aside0.mk (show w16m.heap.size ≤ g16 by have := (show Below w16m.heap.size w16m _ from auB).size; rw [hg]; exact this)); clear hb hg hbox; (have hz16_0 : wam.cell? ⟨g16, 0, none⟩ = some (.int .i16 0) := (blk_cell BZ16.out 0).trans rfl); (have hf16_0 := blk_frozen BZ16.out 0); (have hz16_1 : wam.cell? ⟨g16, 1, none⟩ = some (.int .i16 0) := (blk_cell BZ16.out 1).trans rfl); (have hf16_1 := blk_frozen BZ16.out 1); (have hz16_2 : wam.cell? ⟨g16, 2, none⟩ = some (.int .i16 0) := (blk_cell BZ16.out 2).trans rfl); (have hf16_2 := blk_frozen BZ16.out 2); (have hz16_3 : wam.cell? ⟨g16, 3, none⟩ = some (.int .i16 0) := (blk_cell BZ16.out 3).trans rfl); (have hf16_3 := blk_frozen BZ16.out 3); (have hz16_4 : wam.cell? ⟨g16, 4, none⟩ = some (.int .i16 0) := (blk_cell BZ16.out 4).trans rfl); (have hf16_4 := blk_frozen BZ16.out 4); (have hz16_5 : wam.cell? ⟨g16, 5, none⟩ = some (.int .i8 0) := (blk_cell BZ16.out 5).trans rfl); (have hf16_5 := blk_frozen BZ16.out 5))
    | (((with_reducible refine gate_store (t := 38) (p := 16) rfl ?_); refine store_event (t := 38) (p := 16) (v := ?vo16) (w1 := ((((((wam.setCell ⟨g16, 0, none⟩ (.int .i16 x.f0)).setCell ⟨g16, 1, none⟩ (.int .i16 x.f1)).setCell ⟨g16, 2, none⟩ (.int .i16 x.f2)).setCell ⟨g16, 3, none⟩ (.int .i16 x.f3)).setCell ⟨g16, 4, none⟩ (.int .i16 x.f4)).setCell ⟨g16, 5, none⟩ (.int .i8 x.f5))) ?hgs16 ?hos16 ?hns16 ?hrs16 ?_; (case hos16 => rfl); (case hgs16 => rfl); (case hns16 => rfl); (case hrs16 => first | (go_simp; done) | (go_simp; rfl)); intro wbm hw; (have HBbm := Aside0.mk (show Below w16m.heap.size w16m wbm by rw [hw]; exact (below_set (below_set (below_set (below_set (below_set (below_set HBam.out GZ16.out) GZ16.out) GZ16.out) GZ16.out) GZ16.out) GZ16.out))); (have BK16 := Aside0.mk (show wbm.heap[g16]? = some (.cells #[.int .i16 x.f0, .int .i16 x.f1, .int .i16 x.f2, .int .i16 x.f3, .int .i16 x.f4, .int .i8 x.f5] 38 (0, 0)) by rw [hw]; exact (blk_put (blk_put (blk_put (blk_put (blk_put (blk_put BZ16.out 0 (.int .i16 x.f0) rfl) 1 (.int .i16 x.f1) rfl) 2 (.int .i16 x.f2) rfl) 3 (.int .i16 x.f3) rfl) 4 (.int .i16 x.f4) rfl) 5 (.int .i8 x.f5) rfl))); clear hw BZ16 hz16_0 hf16_0 hz16_1 hf16_1 hz16_2 hf16_2 hz16_3 hf16_3 hz16_4 hf16_4 hz16_5 hf16_5); clear h0 h1 h2 h3 h4 h5; (have hc16_0 : wbm.cell? ⟨g16, 0, none⟩ = some (.int .i16 x.f0) := (blk_cell BK16.out 0).trans rfl); (have hc16_1 : wbm.cell? ⟨g16, 1, none⟩ = some (.int .i16 x.f1) := (blk_cell BK16.out 1).trans rfl); (have hc16_2 : wbm.cell? ⟨g16, 2, none⟩ = some (.int .i16 x.f2) := (blk_cell BK16.out 2).trans rfl); (have hc16_3 : wbm.cell? ⟨g16, 3, none⟩ = some (.int .i16 x.f3) := (blk_cell BK16.out 3).trans rfl); (have hc16_4 : wbm.cell? ⟨g16, 4, none⟩ = some (.int .i16 x.f4) := (blk_cell BK16.out 4).trans rfl); (have hc16_5 : wbm.cell? ⟨g16, 5, none⟩ = some (.int .i8 x.f5) := (blk_cell BK16.out 5).trans rfl))
    | ((with_reducible refine gate_dst (N := 17) rfl ?_); refine box_event ?hg17 (N := 17) ?hd17 (cs := #[.int .i16 0, .int .i16 0, .int .i16 0, .int .i16 0, .int .i16 0, .int .i8 0]) (t := 38) ?hr17 ?_; (case hd17 => rfl); (case hg17 => rfl); (case hr17 => first | (go_simp; done) | (go_simp; rfl)); intro g17 hg wcm hbox hb; (have HG17 := Aside0.mk hg); (have HBcm := Aside0.mk (below_step (show Below wbm.heap.size wbm _ from auB) hb)); (have BZ17 := Aside0.mk hbox); (have GZ17 := Aside0.mk (show wbm.heap.size ≤ g17 by have := (show Below wbm.heap.size wbm _ from auB).size; rw [hg]; exact this)); clear hb hg hbox; (have hz17_0 : wcm.cell? ⟨g17, 0, none⟩ = some (.int .i16 0) := (blk_cell BZ17.out 0).trans rfl); (have hf17_0 := blk_frozen BZ17.out 0); (have hz17_1 : wcm.cell? ⟨g17, 1, none⟩ = some (.int .i16 0) := (blk_cell BZ17.out 1).trans rfl); (have hf17_1 := blk_frozen BZ17.out 1); (have hz17_2 : wcm.cell? ⟨g17, 2, none⟩ = some (.int .i16 0) := (blk_cell BZ17.out 2).trans rfl); (have hf17_2 := blk_frozen BZ17.out 2); (have hz17_3 : wcm.cell? ⟨g17, 3, none⟩ = some (.int .i16 0) := (blk_cell BZ17.out 3).trans rfl); (have hf17_3 := blk_frozen BZ17.out 3); (have hz17_4 : wcm.cell? ⟨g17, 4, none⟩ = some (.int .i16 0) := (blk_cell BZ17.out 4).trans rfl); (have hf17_4 := blk_frozen BZ17.out 4); (have hz17_5 : wcm.cell? ⟨g17, 5, none⟩ = some (.int .i8 0) := (blk_cell BZ17.out 5).trans rfl); (have hf17_5 := blk_frozen BZ17.out 5))
    | (((with_reducible refine gate_store (t := 38) (p := 17) rfl ?_); refine store_event (t := 38) (p := 17) (v := ?vo17) (w1 := ((((((wcm.setCell ⟨g17, 0, none⟩ (.int .i16 x.f0)).setCell ⟨g17, 1, none⟩ (.int .i16 x.f1)).setCell ⟨g17, 2, none⟩ (.int .i16 x.f2)).setCell ⟨g17, 3, none⟩ (.int .i16 x.f3)).setCell ⟨g17, 4, none⟩ (.int .i16 x.f4)).setCell ⟨g17, 5, none⟩ (.int .i8 x.f5))) ?hgs17 ?hos17 ?hns17 ?hrs17 ?_; (case hos17 => rfl); (case hgs17 => rfl); (case hns17 => rfl); (case hrs17 => first | (go_simp; done) | (go_simp; rfl)); intro wdm hw; (have HBdm := Aside0.mk (show Below wbm.heap.size wbm wdm by rw [hw]; exact (below_set (below_set (below_set (below_set (below_set (below_set HBcm.out GZ17.out) GZ17.out) GZ17.out) GZ17.out) GZ17.out) GZ17.out))); (have BK17 := Aside0.mk (show wdm.heap[g17]? = some (.cells #[.int .i16 x.f0, .int .i16 x.f1, .int .i16 x.f2, .int .i16 x.f3, .int .i16 x.f4, .int .i8 x.f5] 38 (0, 0)) by rw [hw]; exact (blk_put (blk_put (blk_put (blk_put (blk_put (blk_put BZ17.out 0 (.int .i16 x.f0) rfl) 1 (.int .i16 x.f1) rfl) 2 (.int .i16 x.f2) rfl) 3 (.int .i16 x.f3) rfl) 4 (.int .i16 x.f4) rfl) 5 (.int .i8 x.f5) rfl))); clear hw BZ17 hz17_0 hf17_0 hz17_1 hf17_1 hz17_2 hf17_2 hz17_3 hf17_3 hz17_4 hf17_4 hz17_5 hf17_5); (have NE := Aside0.mk (show g16 ≠ g17 by have := blk_lt BK16.out; have := HG17.out; omega)); (have BKn : Aside0 (wdm.heap[g16]? = some (.cells #[.int .i16 x.f0, .int .i16 x.f1, .int .i16 x.f2, .int .i16 x.f3, .int .i16 x.f4, .int .i8 x.f5] 38 (0, 0))) := Aside0.mk (blk_below BK16.out HBdm.out)); clear BK16; have BK16 := BKn; clear BKn; clear hc16_0 hc16_1 hc16_2 hc16_3 hc16_4 hc16_5; (have hc16_0 : wdm.cell? ⟨g16, 0, none⟩ = some (.int .i16 x.f0) := (blk_cell BK16.out 0).trans rfl); (have hc16_1 : wdm.cell? ⟨g16, 1, none⟩ = some (.int .i16 x.f1) := (blk_cell BK16.out 1).trans rfl); (have hc16_2 : wdm.cell? ⟨g16, 2, none⟩ = some (.int .i16 x.f2) := (blk_cell BK16.out 2).trans rfl); (have hc16_3 : wdm.cell? ⟨g16, 3, none⟩ = some (.int .i16 x.f3) := (blk_cell BK16.out 3).trans rfl); (have hc16_4 : wdm.cell? ⟨g16, 4, none⟩ = some (.int .i16 x.f4) := (blk_cell BK16.out 4).trans rfl); (have hc16_5 : wdm.cell? ⟨g16, 5, none⟩ = some (.int .i8 x.f5) := (blk_cell BK16.out 5).trans rfl); (have hc17_0 : wdm.cell? ⟨g17, 0, none⟩ = some (.int .i16 x.f0) := (blk_cell BK17.out 0).trans rfl); (have hc17_1 : wdm.cell? ⟨g17, 1, none⟩ = some (.int .i16 x.f1) := (blk_cell BK17.out 1).trans rfl); (have hc17_2 : wdm.cell? ⟨g17, 2, none⟩ = some (.int .i16 x.f2) := (blk_cell BK17.out 2).trans rfl); (have hc17_3 : wdm.cell? ⟨g17, 3, none⟩ = some (.int .i16 x.f3) := (blk_cell BK17.out 3).trans rfl); (have hc17_4 : wdm.cell? ⟨g17, 4, none⟩ = some (.int .i16 x.f4) := (blk_cell BK17.out 4).trans rfl); (have hc17_5 : wdm.cell? ⟨g17, 5, none⟩ = some (.int .i8 x.f5) := (blk_cell BK17.out 5).trans rfl); (have hf17_5 := blk_frozen BK17.out 5))
    | ((with_reducible refine gate_store (t := 36) (p := 109) rfl ?_); refine store_event (t := 36) (p := 109) (v := ?vs109) (w1 := (wdm.setCell ⟨g17, 5, none⟩ (.int .i8 (-x.f5)))) ?hgx109 ?hox109 ?hnx109 ?hrx109 ?_; (case hox109 => rfl); (case hgx109 => rfl); (case hnx109 => rfl); (case hrx109 => first | (go_simp; done) | (go_simp; rfl)); intro wem hw; (have HBem := Aside0.mk (show Below wbm.heap.size wbm wem by rw [hw]; exact below_set HBdm.out GZ17.out)); (have BKn : Aside0 (wem.heap[g17]? = some (.cells #[.int .i16 x.f0, .int .i16 x.f1, .int .i16 x.f2, .int .i16 x.f3, .int .i16 x.f4, .int .i8 (-x.f5)] 38 (0, 0))) := Aside0.mk (by rw [hw]; exact blk_put BK17.out 5 (.int .i8 (-x.f5)) rfl)); clear BK17; have BK17 := BKn; clear BKn; (have BKo16 : Aside0 (wem.heap[g16]? = some (.cells #[.int .i16 x.f0, .int .i16 x.f1, .int .i16 x.f2, .int .i16 x.f3, .int .i16 x.f4, .int .i8 x.f5] 38 (0, 0))) := Aside0.mk (by rw [hw]; exact blk_far BK16.out NE.out _)); clear BK16; have BK16 := BKo16; clear BKo16; clear hw; clear hc16_0 hc16_1 hc16_2 hc16_3 hc16_4 hc16_5 hc17_0 hc17_1 hc17_2 hc17_3 hc17_4 hc17_5; clear hf17_5; (have hc16_0 : wem.cell? ⟨g16, 0, none⟩ = some (.int .i16 x.f0) := (blk_cell BK16.out 0).trans rfl); (have hc16_1 : wem.cell? ⟨g16, 1, none⟩ = some (.int .i16 x.f1) := (blk_cell BK16.out 1).trans rfl); (have hc16_2 : wem.cell? ⟨g16, 2, none⟩ = some (.int .i16 x.f2) := (blk_cell BK16.out 2).trans rfl); (have hc16_3 : wem.cell? ⟨g16, 3, none⟩ = some (.int .i16 x.f3) := (blk_cell BK16.out 3).trans rfl); (have hc16_4 : wem.cell? ⟨g16, 4, none⟩ = some (.int .i16 x.f4) := (blk_cell BK16.out 4).trans rfl); (have hc16_5 : wem.cell? ⟨g16, 5, none⟩ = some (.int .i8 x.f5) := (blk_cell BK16.out 5).trans rfl); (have hc17_0 : wem.cell? ⟨g17, 0, none⟩ = some (.int .i16 x.f0) := (blk_cell BK17.out 0).trans rfl); (have hc17_1 : wem.cell? ⟨g17, 1, none⟩ = some (.int .i16 x.f1) := (blk_cell BK17.out 1).trans rfl); (have hc17_2 : wem.cell? ⟨g17, 2, none⟩ = some (.int .i16 x.f2) := (blk_cell BK17.out 2).trans rfl); (have hc17_3 : wem.cell? ⟨g17, 3, none⟩ = some (.int .i16 x.f3) := (blk_cell BK17.out 3).trans rfl); (have hc17_4 : wem.cell? ⟨g17, 4, none⟩ = some (.int .i16 x.f4) := (blk_cell BK17.out 4).trans rfl); (have hc17_5 : wem.cell? ⟨g17, 5, none⟩ = some (.int .i8 (-x.f5)) := (blk_cell BK17.out 5).trans rfl); (have hf17_0 := blk_frozen BK17.out 0))
    | ((with_reducible refine gate_store (t := 35) (p := 110) rfl ?_); refine store_event (t := 35) (p := 110) (v := ?vs110) (w1 := (wem.setCell ⟨g17, 0, none⟩ (.int .i16 0))) ?hgx110 ?hox110 ?hnx110 ?hrx110 ?_; (case hox110 => rfl); (case hgx110 => rfl); (case hnx110 => rfl); (case hrx110 => first | (go_simp; done) | (go_simp; rfl)); intro wfm hw; (have HBfm := Aside0.mk (show Below wbm.heap.size wbm wfm by rw [hw]; exact below_set HBem.out GZ17.out)); (have BKn : Aside0 (wfm.heap[g17]? = some (.cells #[.int .i16 0, .int .i16 x.f1, .int .i16 x.f2, .int .i16 x.f3, .int .i16 x.f4, .int .i8 (-x.f5)] 38 (0, 0))) := Aside0.mk (by rw [hw]; exact blk_put BK17.out 0 (.int .i16 0) rfl)); clear BK17; have BK17 := BKn; clear BKn; (have BKo16 : Aside0 (wfm.heap[g16]? = some (.cells #[.int .i16 x.f0, .int .i16 x.f1, .int .i16 x.f2, .int .i16 x.f3, .int .i16 x.f4, .int .i8 x.f5] 38 (0, 0))) := Aside0.mk (by rw [hw]; exact blk_far BK16.out NE.out _)); clear BK16; have BK16 := BKo16; clear BKo16; clear hw; clear hc16_0 hc16_1 hc16_2 hc16_3 hc16_4 hc16_5 hc17_0 hc17_1 hc17_2 hc17_3 hc17_4 hc17_5; clear hf17_0; (have hc16_0 : wfm.cell? ⟨g16, 0, none⟩ = some (.int .i16 x.f0) := (blk_cell BK16.out 0).trans rfl); (have hc16_1 : wfm.cell? ⟨g16, 1, none⟩ = some (.int .i16 x.f1) := (blk_cell BK16.out 1).trans rfl); (have hc16_2 : wfm.cell? ⟨g16, 2, none⟩ = some (.int .i16 x.f2) := (blk_cell BK16.out 2).trans rfl); (have hc16_3 : wfm.cell? ⟨g16, 3, none⟩ = some (.int .i16 x.f3) := (blk_cell BK16.out 3).trans rfl); (have hc16_4 : wfm.cell? ⟨g16, 4, none⟩ = some (.int .i16 x.f4) := (blk_cell BK16.out 4).trans rfl); (have hc16_5 : wfm.cell? ⟨g16, 5, none⟩ = some (.int .i8 x.f5) := (blk_cell BK16.out 5).trans rfl); (have hc17_0 : wfm.cell? ⟨g17, 0, none⟩ = some (.int .i16 0) := (blk_cell BK17.out 0).trans rfl); (have hc17_1 : wfm.cell? ⟨g17, 1, none⟩ = some (.int .i16 x.f1) := (blk_cell BK17.out 1).trans rfl); (have hc17_2 : wfm.cell? ⟨g17, 2, none⟩ = some (.int .i16 x.f2) := (blk_cell BK17.out 2).trans rfl); (have hc17_3 : wfm.cell? ⟨g17, 3, none⟩ = some (.int .i16 x.f3) := (blk_cell BK17.out 3).trans rfl); (have hc17_4 : wfm.cell? ⟨g17, 4, none⟩ = some (.int .i16 x.f4) := (blk_cell BK17.out 4).trans rfl); (have hc17_5 : wfm.cell? ⟨g17, 5, none⟩ = some (.int .i8 (-x.f5)) := (blk_cell BK17.out 5).trans rfl))
    | (((with_reducible refine gate_dst (N := 114) rfl ?_); refine Kd.R_lit k38 _ 38 ?hg114 (N := 114) ?hd114 (xs := [(⟨0, x.f1, x.f2, x.f3, x.f4, -x.f5⟩ : S38)]) (inner := [.int .i16 0, .int .i16 x.f1, .int .i16 x.f2, .int .i16 x.f3, .int .i16 x.f4, .int .i8 (-x.f5)]) (ok := fun _ => True) (okp := fun _ => True) ?hr114 ?hp114 (fun _ hk => hk) trivial (Below.refl _ _) (Nat.le_refl _) (by simp) ?_; (case hd114 => rfl); (case hg114 => rfl); (case hr114 => first | (go_simp; done) | (go_simp; rfl)); (case hp114 => exact (Reps.c6 (show Kd.M k38 _ _ _ (⟨0, x.f1, x.f2, x.f3, x.f4, -x.f5⟩ : S38) [.int .i16 0, .int .i16 x.f1, .int .i16 x.f2, .int .i16 x.f3, .int .i16 x.f4, .int .i8 (-x.f5)] from (k38_mkM _ _ _ (⟨0, x.f1, x.f2, x.f3, x.f4, -x.f5⟩ : S38))) (Reps.none _ _))); intro v114 wgm ho hb hg_ hnew_; clear hg_ hnew_; rw [HY.out] at ho; obtain ⟨At114, ct114, rfl, hs⟩ := ret_sl ho; (have HSt114 := Aside0.mk hs); (have HBgm := Aside0.mk (below_step (show Below wfm.heap.size wfm _ from auB) hb)); clear ho hs hb); (have BKn : Aside0 (wgm.heap[g16]? = some (.cells #[.int .i16 x.f0, .int .i16 x.f1, .int .i16 x.f2, .int .i16 x.f3, .int .i16 x.f4, .int .i8 x.f5] 38 (0, 0))) := Aside0.mk (blk_below BK16.out HBgm.out)); clear BK16; have BK16 := BKn; clear BKn; clear hc16_0 hc16_1 hc16_2 hc16_3 hc16_4 hc16_5 hc17_0 hc17_1 hc17_2 hc17_3 hc17_4 hc17_5; (have hc16_0 : wgm.cell? ⟨g16, 0, none⟩ = some (.int .i16 x.f0) := (blk_cell BK16.out 0).trans rfl); (have hc16_1 : wgm.cell? ⟨g16, 1, none⟩ = some (.int .i16 x.f1) := (blk_cell BK16.out 1).trans rfl); (have hc16_2 : wgm.cell? ⟨g16, 2, none⟩ = some (.int .i16 x.f2) := (blk_cell BK16.out 2).trans rfl); (have hc16_3 : wgm.cell? ⟨g16, 3, none⟩ = some (.int .i16 x.f3) := (blk_cell BK16.out 3).trans rfl); (have hc16_4 : wgm.cell? ⟨g16, 4, none⟩ = some (.int .i16 x.f4) := (blk_cell BK16.out 4).trans rfl); (have hc16_5 : wgm.cell? ⟨g16, 5, none⟩ = some (.int .i8 x.f5) := (blk_cell BK16.out 5).trans rfl)))
  go_wp2_with (go_at_call 16; (with_reducible refine (spec_DayOf.calls kr18 _ _ V _ _ Y 0 Z 0 _ auC auL auC auL H18.out).mono ?_); rintro e w18 ⟨v18, rfl, ho18, hb⟩; obtain ⟨A18, c18, rfl, hs18⟩ := ret_sl ho18; (have HS18 := Aside0.mk hs18); clear ho18 hs18; (have HB18 := Aside0.mk (below_step (show Below wgm.heap.size wgm _ from auB) hb)); clear hb)
  go_wp2_with (go_at_call 13; (with_reducible refine (impl_MissedWalks.calls kr20 _ _ r _ _ ws day _ _ Z q 0 _ auC auL auC auL auC auL H20.out).mono ?_); rintro e w20 ⟨v20, rfl, ho20, hb⟩; obtain ⟨A20, c20, rfl, hs20⟩ := ret_sl ho20; (have HS20 := Aside0.mk hs20); clear ho20 hs20; (have HB20 := Aside0.mk (below_step (show Below w18.heap.size w18 _ from auB) hb)); clear hb)
  go_wp2_with (first
    | (go_at_call 14; (with_reducible refine (spec_MissedWalks.calls kr22 _ _ r _ _ ws day _ _ Z q 0 _ auC auL auC auL auC auL H22.out).mono ?_); rintro e w22 ⟨v22, rfl, ho22, hb⟩; obtain ⟨A22, c22, rfl, hs22⟩ := ret_sl ho22; (have HS22 := Aside0.mk hs22); clear ho22 hs22; (have HB22 := Aside0.mk (below_step (show Below w20.heap.size w20 _ from auB) hb)); clear hb))
  go_wp2_with (first
    | (go_at_call 15; (with_reducible refine (spec_SamePairs.calls kr23 _ _ q _ _ q true _ auC auL auC auL H23.out).mono ?_); rintro e w23 ⟨rfl, hb⟩; replace hb := drawn_below hb; (have HB23 := Aside0.mk (below_step (show Below w22.heap.size w22 _ from auB) hb)); clear hb; (have BKn : Aside0 (w23.heap[g16]? = some (.cells #[.int .i16 x.f0, .int .i16 x.f1, .int .i16 x.f2, .int .i16 x.f3, .int .i16 x.f4, .int .i8 x.f5] 38 (0, 0))) := Aside0.mk (auK)); clear BK16; have BK16 := BKn; clear BKn; clear hc16_0 hc16_1 hc16_2 hc16_3 hc16_4 hc16_5; (have hc16_0 : w23.cell? ⟨g16, 0, none⟩ = some (.int .i16 x.f0) := (blk_cell BK16.out 0).trans rfl); (have hc16_1 : w23.cell? ⟨g16, 1, none⟩ = some (.int .i16 x.f1) := (blk_cell BK16.out 1).trans rfl); (have hc16_2 : w23.cell? ⟨g16, 2, none⟩ = some (.int .i16 x.f2) := (blk_cell BK16.out 2).trans rfl); (have hc16_3 : w23.cell? ⟨g16, 3, none⟩ = some (.int .i16 x.f3) := (blk_cell BK16.out 3).trans rfl); (have hc16_4 : w23.cell? ⟨g16, 4, none⟩ = some (.int .i16 x.f4) := (blk_cell BK16.out 4).trans rfl); (have hc16_5 : w23.cell? ⟨g16, 5, none⟩ = some (.int .i8 x.f5) := (blk_cell BK16.out 5).trans rfl)))
  go_wp2_with (go_at_call 17; (with_reducible refine (spec_HasPair.calls kr24 _ _ q _ _ true _ auC auL H24.out).mono ?_); rintro e w24 ⟨rfl, hb⟩; (have HB24 := Aside0.mk (below_step (show Below w23.heap.size w23 _ from auB) hb)); clear hb)
  clear hc16_0 hc16_1 hc16_2 hc16_3 hc16_4 hc16_5 hne hne2 q1 HY E64 E8 e64 e8
  go_loopw [24] (fun v24 w' => ∃ i : Nat, i ≤ q.length ∧ v24 = .int .i64 i ∧ Aside0 (Below w24.heap.size w24 w')) (fun v24 _ => q.length - (intOf v24).toNat)
  case atStart => exact ⟨0, Nat.zero_le _, rfl, ⟨auE⟩⟩
  case round =>
    obtain ⟨i, hi, rfl, HBl⟩ := hrel
    by_cases hlt : i < q.length
    case neg =>
      have hie : i = q.length := by omega
      go_wp2
      go_ret
      exact ⟨rfl, auE⟩
    obtain ⟨r1, r7, hw, d0, d1, hWl, hWb, hSl, hSb, ql, qok, hx⟩ := HP2.out
    have eq_ : rd_T40 q (i : Int) = q[i] := by simp [rd_T40, hlt]
    obtain ⟨u0, u1, u2, u3, uon, ub⟩ := qok.ent q[i] (List.getElem_mem hlt)
    have hord : ∀ h : 0 < i, (q[i - 1].f0 < q[i].f0 ∨ q[i - 1].f0 = q[i].f0 ∧ q[i - 1].f1 < q[i].f1) := fun h => List.pairwise_iff_getElem.mp qok.ord (i - 1) i (by omega) hlt (by omega)
    have HQ := Aside0.mk eq_
    obtain ⟨u, hu_⟩ : ∃ u, q[i] = u := ⟨_, rfl⟩
    rw [hu_] at u0 u1 u2 u3 uon ub hord
    replace HQ := Aside0.mk (show rd_T40 q (i : Int) = u by rw [HQ.out, hu_])
    clear eq_ hu_
    obtain ⟨m, hm⟩ : ∃ m : Nat, u.f0 = m := ⟨u.f0.toNat, by omega⟩
    have hymem : rd_T38 ws u.f0 ∈ ws := by rw [hm]; simp [rd_T38, show m < ws.length by omega]
    have hy := hw _ hymem
    obtain ⟨y, hyy⟩ : ∃ y, rd_T38 ws u.f0 = y := ⟨_, rfl⟩
    rw [hyy] at hy uon ub
    have HYY := Aside0.mk hyy
    have y5 := hy.h5
    have oky : RowOk Z [(⟨0, y.f1, y.f2, y.f3, y.f4, y.f5⟩ : S38)] := ⟨by omega, by omega, hSb, by
      intro z hz
      simp only [List.mem_singleton] at hz
      subst hz
      rw [hSl]
      exact hy.first0 _ (by omega), by simp⟩
    have hon := implWalksOn_ok (b := (r.length : Int)) (by omega) (by omega) hy u2 (by omega)
    rw [uon] at hon
    have hag := implDayOf_ok oky (d := 0) (by omega) (by omega)
    rw [show rowBy (fun y => onZ y 0) [(⟨0, y.f1, y.f2, y.f3, y.f4, y.f5⟩ : S38)] Z = V by rw [← ub]; exact day_forth hWb] at hag
    obtain ⟨Y2, hY2⟩ : ∃ Y2, [(⟨0, y.f1, y.f2, y.f3, y.f4, y.f5⟩ : S38)] = Y2 := ⟨_, rfl⟩
    rw [hY2] at hag
    have HY2 := Aside0.mk hY2
    obtain ⟨kr37, H37⟩ := Ev.rounds (hag)
    obtain ⟨kr38, H38⟩ := Ev.rounds (specSame_ev V V (by omega))
    rw [decide_eq_true rfl] at H38
    have H32 := Aside0.mk hon
    replace H37 := Aside0.mk H37
    replace H38 := Aside0.mk H38
    have HU := Aside0.mk (And.intro u0 (And.intro u1 (And.intro u2 u3)))
    have HORD := Aside0.mk hord
    have HLT := Aside0.mk hlt
    have HQL := Aside0.mk ql
    clear r1 r7 hw d0 d1 hWl hWb hSl hSb ql qok hx u0 u1 u2 u3 uon ub hord hm hymem hy hyy y5 oky hon hag hY2
    obtain ⟨ad22, rfl, e0, e1⟩ := at_T40 (show Kd.C k40 wr A22 q.length q from auC) (i : Int) (by omega) (by omega)
    simp only [Int.toNat_natCast, HQ.out] at e0 e1
    have qi1 := eq_true (show (i : Int) < (q.length : Int) by omega)
    have qi0 := eq_true (show (0 : Int) ≤ (i : Int) by omega)
    have qd1 : decide (i < q.length) = true := decide_eq_true hlt
    go_upto_region 30 with (fail)
    go_cut [217] (fun v217 wc => v217 = .bool false ∧ Aside0 (Below wr.heap.size wr wc))
    case first =>
      obtain ⟨u0, u1, u2, u3⟩ := HU.out
      have n1 := eq_false (show ¬ u.f0 < 0 by omega)
      have n2 := eq_false (show ¬ (ws.length : Int) ≤ u.f0 by omega)
      have n1d : decide (u.f0 < 0) = false := decide_eq_false (by omega)
      have n2d : decide ((ws.length : Int) ≤ u.f0) = false := decide_eq_false (by omega)
      have n2e : decide (u.f0 ≥ (ws.length : Int)) = false := decide_eq_false (by omega)
      by_cases hi0 : i = 0
      · subst hi0
        clear u0 u1 u2 u3
        go_wp2_with fail
        go_quiet (fail)
        go_wp2
        go_meet
        case rel => exact ⟨rfl, ⟨auE⟩⟩
      · have ho := HORD.out (by omega)
        have ql := HQL.out
        have ew : wrap64 ((i : Int) - 1) = ((i - 1 : Nat) : Int) := by rw [w64 (by omega) (by omega)]; omega
        clear ql
        obtain ⟨v, hv⟩ : ∃ v, rd_T40 q ((i - 1 : Nat) : Int) = v := ⟨_, rfl⟩
        have hvq : q[i - 1] = v := by rw [← hv]; simp [rd_T40, show i - 1 < q.length by omega]
        rw [hvq] at ho
        have hat := at_T40 (show Kd.C k40 wr (some ad22) q.length q from auC) ((i - 1 : Nat) : Int) (by omega) (by omega)
        obtain ⟨ad22', hae, f0, f1⟩ := hat
        obtain rfl := Option.some.inj hae
        simp only [Int.toNat_natCast, hv] at f0 f1
        have qj1 := eq_true (show ((i - 1 : Nat) : Int) < (q.length : Int) by omega)
        have qj0 := eq_true (show (0 : Int) ≤ ((i - 1 : Nat) : Int) by omega)
        have qjd : decide (i - 1 < q.length) = true := decide_eq_true (by omega)
        have n0 := eq_true (show (0 : Int) < (i : Int) by omega)
        have n0d : decide ((0 : Int) < (i : Int)) = true := decide_eq_true (by omega)
        have n0e : decide ((i : Int) > 0) = true := decide_eq_true (by omega)
        have n0f : decide (0 < i) = true := decide_eq_true (by omega)
        have n3 := eq_false (show ¬ u.f0 < v.f0 by omega)
        have n3d : decide (u.f0 < v.f0) = false := decide_eq_false (by omega)
        by_cases he : u.f0 = v.f0
        · have n4 : (u.f0 == v.f0) = true := beq_iff_eq.mpr he
          have n5 := eq_false (show ¬ u.f1 ≤ v.f1 by omega)
          have n5d : decide (u.f1 ≤ v.f1) = false := decide_eq_false (by omega)
          clear u0 u1 u2 u3 ho hv hvq he
          go_wp2_with fail
          go_quiet (fail)
          go_wp2
          go_meet
          case rel => exact ⟨rfl, ⟨auE⟩⟩
        · have n4 : (u.f0 == v.f0) = false := beq_eq_false_iff_ne.mpr he
          clear u0 u1 u2 u3 ho hv hvq he
          go_wp2_with fail
          go_quiet (fail)
          go_wp2
          go_meet
          case rel => exact ⟨rfl, ⟨auE⟩⟩
    case rest =>
      obtain ⟨rfl, HBc⟩ := hcut
      clear e0 e1
      obtain ⟨u0, u1, u2, u3⟩ := HU.out
      have hat := at_T38 (show Kd.C k38 wc (some ad7) ws.length ws from auC) u.f0 (by omega) (by omega)
      obtain ⟨ad7', hae, h0, h1, h2, h3, h4, h5⟩ := hat
      obtain rfl := Option.some.inj hae
      simp only [HYY.out] at h0 h1 h2 h3 h4 h5
      have hat := at_T40 (show Kd.C k40 wc (some ad22) q.length q from auC) (i : Int) (by omega) (by omega)
      obtain ⟨ad22', hae, e0, e1⟩ := hat
      obtain rfl := Option.some.inj hae
      simp only [Int.toNat_natCast, HQ.out] at e0 e1
      have qu1 := eq_true (show u.f0 < (ws.length : Int) by omega)
      have qu0 := eq_true (show (0 : Int) ≤ u.f0 by omega)
      clear u0 u1 u2 u3
      go_wp2_with fail
      refine start_ (n := 16) (S := fun w' => w'.cell? (ad7.add (u.f0.toNat * 6)) = some (.int .i16 y.f0) ∧ w'.cell? ⟨(ad7.add (u.f0.toNat * 6)).block, (ad7.add (u.f0.toNat * 6)).off + 1, none⟩ = some (.int .i16 y.f1) ∧ w'.cell? ⟨(ad7.add (u.f0.toNat * 6)).block, (ad7.add (u.f0.toNat * 6)).off + 2, none⟩ = some (.int .i16 y.f2) ∧ w'.cell? ⟨(ad7.add (u.f0.toNat * 6)).block, (ad7.add (u.f0.toNat * 6)).off + 3, none⟩ = some (.int .i16 y.f3) ∧ w'.cell? ⟨(ad7.add (u.f0.toNat * 6)).block, (ad7.add (u.f0.toNat * 6)).off + 4, none⟩ = some (.int .i16 y.f4) ∧ w'.cell? ⟨(ad7.add (u.f0.toNat * 6)).block, (ad7.add (u.f0.toNat * 6)).off + 5, none⟩ = some (.int .i8 y.f5) ∧ w'.cell? (ad22.add (i * 2)) = some (.int .i64 u.f0) ∧ w'.cell? ⟨(ad22.add (i * 2)).block, (ad22.add (i * 2)).off + 1, none⟩ = some (.int .i64 u.f1)) (ds := []) #[false, false, false, false, false, false, false, false, false, false, false, false, false, false, false, false] (by kernel_rfl) rfl rfl ⟨h0, h1, h2, h3, h4, h5, e0, e1⟩ (fun hHeld => ?_); refine with_tabW laws_FnMissed.tab32 laws_FnMissed.bits32 (fun HT_ HW_ => ?_)
      obtain ⟨w31, hgen⟩ : ∃ x, x = wc.drew := ⟨_, rfl⟩
      have HB31 := Aside0.mk (show Below wc.heap.size wc w31 by rw [hgen]; exact below_drew1 (Below.refl _ _))
      rw [← hgen] at hHeld ⊢
      clear hgen h0 h1 h2 h3 h4 h5 e0 e1
      refine pure_ (i := 0) (N := some 219) (v := ?_) (a' := ?_) #[true, false, false, false, false, false, false, false, false, false, false, false, false, false, false, false] rfl rfl (any_of HT_.out (by kernel_rfl)) (fun _ _ _ h => h) (Or.inl ⟨by rfl, ?_⟩) ?_ ?_
      rotate_left
      · intro w'
        go_simp
        with_reducible rfl
      rotate_left
      · simp only [Act.put, List.setIfInBounds_toArray, List.set_cons_zero, List.set_cons_succ, i64_w, i32_w]
        rfl
      refine pure_ (i := 1) (N := some 220) (v := ?_) (a' := ?_) #[true, true, false, false, false, false, false, false, false, false, false, false, false, false, false, false] rfl rfl (any_of HT_.out (by kernel_rfl)) (fun _ _ _ h => h) (Or.inl ⟨by rfl, ?_⟩) ?_ ?_
      rotate_left
      · intro w'
        go_simp
        with_reducible rfl
      rotate_left
      · simp only [Act.put, List.setIfInBounds_toArray, List.set_cons_zero, List.set_cons_succ, i64_w, i32_w]
        rfl
      refine pure_ (i := 2) (N := some 221) (v := ?_) (a' := ?_) #[true, true, true, false, false, false, false, false, false, false, false, false, false, false, false, false] rfl rfl (any_of HT_.out (by kernel_rfl)) (fun _ _ _ h => h) (Or.inl ⟨by rfl, ?_⟩) ?_ ?_
      rotate_left
      · intro w'
        go_simp
        with_reducible rfl
      rotate_left
      · simp only [Act.put, List.setIfInBounds_toArray, List.set_cons_zero, List.set_cons_succ, i64_w, i32_w]
        rfl
      refine pure_ (i := 3) (N := some 222) (v := ?_) (a' := ?_) #[true, true, true, true, false, false, false, false, false, false, false, false, false, false, false, false] rfl rfl (any_of HT_.out (by kernel_rfl)) (fun _ _ _ h => h) (Or.inl ⟨by rfl, ?_⟩) ?_ ?_
      rotate_left
      · intro w'
        go_simp
        with_reducible rfl
      rotate_left
      · simp only [Act.put, List.setIfInBounds_toArray, List.set_cons_zero, List.set_cons_succ, i64_w, i32_w]
        rfl
      refine pure_ (i := 5) (N := some 224) (v := ?_) (a' := ?_) #[true, true, true, true, false, true, false, false, false, false, false, false, false, false, false, false] rfl rfl (any_of HT_.out (by kernel_rfl)) (fun _ _ _ h => h) (Or.inl ⟨by rfl, ?_⟩) ?_ ?_
      rotate_left
      · intro w'
        go_simp
        with_reducible rfl
      rotate_left
      · simp only [Act.put, List.setIfInBounds_toArray, List.set_cons_zero, List.set_cons_succ, i64_w, i32_w]
        rfl
      refine pure_ (i := 6) (N := some 225) (v := ?_) (a' := ?_) #[true, true, true, true, false, true, true, false, false, false, false, false, false, false, false, false] rfl rfl (any_of HT_.out (by kernel_rfl)) (fun _ _ _ h => h) (Or.inl ⟨by rfl, ?_⟩) ?_ ?_
      rotate_left
      · intro w'
        go_simp
        with_reducible rfl
      rotate_left
      · simp only [Act.put, List.setIfInBounds_toArray, List.set_cons_zero, List.set_cons_succ, i64_w, i32_w]
        rfl
      refine pure_ (i := 7) (N := some 226) (v := ?_) (a' := ?_) #[true, true, true, true, false, true, true, true, false, false, false, false, false, false, false, false] rfl rfl (any_of HT_.out (by kernel_rfl)) (fun _ _ _ h => h) (Or.inl ⟨by rfl, ?_⟩) ?_ ?_
      rotate_left
      · intro w'
        go_simp
        with_reducible rfl
      rotate_left
      · simp only [Act.put, List.setIfInBounds_toArray, List.set_cons_zero, List.set_cons_succ, i64_w, i32_w]
        rfl
      refine pure_ (i := 8) (N := some 227) (v := ?_) (a' := ?_) #[true, true, true, true, false, true, true, true, true, false, false, false, false, false, false, false] rfl rfl (any_of HT_.out (by kernel_rfl)) (fun _ _ _ h => h) (Or.inl ⟨by rfl, ?_⟩) ?_ ?_
      rotate_left
      · intro w'
        go_simp
        with_reducible rfl
      rotate_left
      · simp only [Act.put, List.setIfInBounds_toArray, List.set_cons_zero, List.set_cons_succ, i64_w, i32_w]
        rfl
      refine take_ (i := 4) (N := some 223) (v := ?_) (a' := ?_) #[true, true, true, true, true, true, true, true, true, false, false, false, false, false, false, false] rfl rfl (take_ofW HT_.out HW_.out (by kernel_rfl)) (fun _ _ _ h => h) (Or.inl ⟨by rfl, ?_⟩) hHeld ?_ ?_
      rotate_left
      · rintro w' ⟨s0, s1, s2, s3, s4, s5, s6, s7⟩
        go_simp
        with_reducible rfl
      rotate_left
      · simp only [Act.put, List.setIfInBounds_toArray, List.set_cons_zero, List.set_cons_succ, i64_w, i32_w]
        rfl
      refine take_ (i := 9) (N := some 228) (v := ?_) (a' := ?_) #[true, true, true, true, true, true, true, true, true, true, false, false, false, false, false, false] rfl rfl (take_ofW HT_.out HW_.out (by kernel_rfl)) (fun _ _ _ h => h) (Or.inl ⟨by rfl, ?_⟩) hHeld ?_ ?_
      rotate_left
      · rintro w' ⟨s0, s1, s2, s3, s4, s5, s6, s7⟩
        go_simp
        with_reducible rfl
      rotate_left
      · simp only [Act.put, List.setIfInBounds_toArray, List.set_cons_zero, List.set_cons_succ, i64_w, i32_w]
        rfl
      refine one_ (i := 10) (N := some 229) #[true, true, true, true, true, true, true, true, true, true, true, false, false, false, false, false] rfl rfl (one_of HT_.out (by kernel_rfl)) (by decide) (fun K hK => ?_)
      refine goes_ Try.func18 (by kernel_rfl) rfl #[.int .i64 (r.length : Int), .agg #[.int .i16 y.f0, .int .i16 y.f1, .int .i16 y.f2, .int .i16 y.f3, .int .i16 y.f4, .int .i8 y.f5], .int .i64 u.f1] (by rfl) rfl rfl (by (try simp only [List.map_toArray, List.map_cons, List.map_nil]); first | done | rfl | (simp only [List.length_drop, List.length_take]; rfl)) ?_
      (with_reducible refine (impl_WalksOn.calls _ _ _ _ _ _ _ _ true 0 _ H32.out).mono ?_)
      rintro e w32 ⟨rfl, hb⟩
      (have HB32 := Aside0.mk (below_step (show Below w31.heap.size w31 _ from auB) hb))
      clear hb
      refine ⟨_, rfl, ?_⟩
      refine hK.out _ _ ⟨(cell_below hHeld.1 HB32.out), (cell_below hHeld.2.1 HB32.out), (cell_below hHeld.2.2.1 HB32.out), (cell_below hHeld.2.2.2.1 HB32.out), (cell_below hHeld.2.2.2.2.1 HB32.out), (cell_below hHeld.2.2.2.2.2.1 HB32.out), (cell_below hHeld.2.2.2.2.2.2.1 HB32.out), (cell_below hHeld.2.2.2.2.2.2.2 HB32.out)⟩ (fun hHeld => ?_)
      clear hK K
      refine norm_ (a' := ?_) ?_ ?_
      rotate_left
      · show Act.put _ (some 229) _ = _
        simp only [Act.put, List.setIfInBounds_toArray, List.set_cons_zero, List.set_cons_succ, i64_w, i32_w]
        rfl
      refine pure_ (i := 11) (N := some 218) (v := ?_) (a' := ?_) #[true, true, true, true, true, true, true, true, true, true, true, true, false, false, false, false] rfl rfl (any_of HT_.out (by kernel_rfl)) (fun _ _ _ h => h) (Or.inl ⟨by rfl, ?_⟩) ?_ ?_
      rotate_left
      · intro w'
        go_simp
        with_reducible rfl
      rotate_left
      · simp only [Act.put, List.setIfInBounds_toArray, List.set_cons_zero, List.set_cons_succ, i64_w, i32_w]
        rfl
      refine pure_ (i := 12) (N := some 230) (v := ?_) (a' := ?_) #[true, true, true, true, true, true, true, true, true, true, true, true, true, false, false, false] rfl rfl (any_of HT_.out (by kernel_rfl)) (fun _ _ _ h => h) (Or.inl ⟨by rfl, ?_⟩) ?_ ?_
      rotate_left
      · intro w'
        go_simp
        with_reducible rfl
      rotate_left
      · simp only [Act.put, List.setIfInBounds_toArray, List.set_cons_zero, List.set_cons_succ, i64_w, i32_w]
        rfl
      refine pure_ (i := 13) (N := some 231) (v := ?_) (a' := ?_) #[true, true, true, true, true, true, true, true, true, true, true, true, true, true, false, false] rfl rfl (any_of HT_.out (by kernel_rfl)) (fun _ _ _ h => h) (Or.inl ⟨by rfl, ?_⟩) ?_ ?_
      rotate_left
      · intro w'
        go_simp
        with_reducible rfl
      rotate_left
      · simp only [Act.put, List.setIfInBounds_toArray, List.set_cons_zero, List.set_cons_succ, i64_w, i32_w]
        rfl
      refine pure_ (i := 14) (N := some 26) (v := ?_) (a' := ?_) #[true, true, true, true, true, true, true, true, true, true, true, true, true, true, true, false] rfl rfl (any_of HT_.out (by kernel_rfl)) (fun _ _ _ h => h) (Or.inl ⟨by rfl, ?_⟩) ?_ ?_
      rotate_left
      · intro w'
        go_simp
        with_reducible rfl
      rotate_left
      · simp only [Act.put, List.setIfInBounds_toArray, List.set_cons_zero, List.set_cons_succ, i64_w, i32_w]
        rfl
      refine pure_ (i := 15) (N := some 27) (v := ?_) (a' := ?_) #[true, true, true, true, true, true, true, true, true, true, true, true, true, true, true, true] rfl rfl (any_of HT_.out (by kernel_rfl)) (fun _ _ _ h => h) (Or.inl ⟨by rfl, ?_⟩) ?_ ?_
      rotate_left
      · intro w'
        go_simp
        with_reducible rfl
      rotate_left
      · simp only [Act.put, List.setIfInBounds_toArray, List.set_cons_zero, List.set_cons_succ, i64_w, i32_w]
        rfl
      refine done_ (done_of HT_.out (by kernel_rfl)) ?_
      clear HT_ HW_ hHeld
      obtain ⟨u0, u1, u2, u3⟩ := HU.out
      have hlt := HLT.out
      have n6 := eq_false (show ¬ day < u.f1 by omega)
      have n6d : decide (day < u.f1) = false := decide_eq_false (by omega)
      have hat := at_T40 (show Kd.C k40 w32 (some ad22) q.length q from auC) (i : Int) (by omega) (by omega)
      obtain ⟨ad22', hae, e0, e1⟩ := hat
      obtain rfl := Option.some.inj hae
      simp only [Int.toNat_natCast, HQ.out] at e0 e1
      have hat := at_T38 (show Kd.C k38 w32 (some ad7) ws.length ws from auC) u.f0 (by omega) (by omega)
      obtain ⟨ad7', hae, h0, h1, h2, h3, h4, h5⟩ := hat
      obtain rfl := Option.some.inj hae
      simp only [HYY.out] at h0 h1 h2 h3 h4 h5
      go_wp2_with (first
        | ((with_reducible refine gate_dst (N := 28) rfl ?_); refine box_event ?hg28 (N := 28) ?hd28 (cs := #[.int .i16 0, .int .i16 0, .int .i16 0, .int .i16 0, .int .i16 0, .int .i8 0]) (t := 38) ?hr28 ?_; (case hd28 => rfl); (case hg28 => rfl); (case hr28 => first | (go_simp; done) | (go_simp; rfl)); intro g28 hg wh hbox hb; (have HG28 := Aside0.mk hg); (have HBh := Aside0.mk (below_step (show Below w32.heap.size w32 _ from auB) hb)); (have BZ28 := Aside0.mk hbox); (have GZ28 := Aside0.mk (show w32.heap.size ≤ g28 by have := (show Below w32.heap.size w32 _ from auB).size; rw [hg]; exact this)); clear hb hg hbox; (have hz28_0 : wh.cell? ⟨g28, 0, none⟩ = some (.int .i16 0) := (blk_cell BZ28.out 0).trans rfl); (have hf28_0 := blk_frozen BZ28.out 0); (have hz28_1 : wh.cell? ⟨g28, 1, none⟩ = some (.int .i16 0) := (blk_cell BZ28.out 1).trans rfl); (have hf28_1 := blk_frozen BZ28.out 1); (have hz28_2 : wh.cell? ⟨g28, 2, none⟩ = some (.int .i16 0) := (blk_cell BZ28.out 2).trans rfl); (have hf28_2 := blk_frozen BZ28.out 2); (have hz28_3 : wh.cell? ⟨g28, 3, none⟩ = some (.int .i16 0) := (blk_cell BZ28.out 3).trans rfl); (have hf28_3 := blk_frozen BZ28.out 3); (have hz28_4 : wh.cell? ⟨g28, 4, none⟩ = some (.int .i16 0) := (blk_cell BZ28.out 4).trans rfl); (have hf28_4 := blk_frozen BZ28.out 4); (have hz28_5 : wh.cell? ⟨g28, 5, none⟩ = some (.int .i8 0) := (blk_cell BZ28.out 5).trans rfl); (have hf28_5 := blk_frozen BZ28.out 5))
        | (((with_reducible refine gate_store (t := 38) (p := 28) rfl ?_); refine store_event (t := 38) (p := 28) (v := ?vo28) (w1 := ((((((wh.setCell ⟨g28, 0, none⟩ (.int .i16 y.f0)).setCell ⟨g28, 1, none⟩ (.int .i16 y.f1)).setCell ⟨g28, 2, none⟩ (.int .i16 y.f2)).setCell ⟨g28, 3, none⟩ (.int .i16 y.f3)).setCell ⟨g28, 4, none⟩ (.int .i16 y.f4)).setCell ⟨g28, 5, none⟩ (.int .i8 y.f5))) ?hgs28 ?hos28 ?hns28 ?hrs28 ?_; (case hos28 => rfl); (case hgs28 => rfl); (case hns28 => rfl); (case hrs28 => first | (go_simp; done) | (go_simp; rfl)); intro wi hw; (have HBi := Aside0.mk (show Below w32.heap.size w32 wi by rw [hw]; exact (below_set (below_set (below_set (below_set (below_set (below_set HBh.out GZ28.out) GZ28.out) GZ28.out) GZ28.out) GZ28.out) GZ28.out))); (have BK28 := Aside0.mk (show wi.heap[g28]? = some (.cells #[.int .i16 y.f0, .int .i16 y.f1, .int .i16 y.f2, .int .i16 y.f3, .int .i16 y.f4, .int .i8 y.f5] 38 (0, 0)) by rw [hw]; exact (blk_put (blk_put (blk_put (blk_put (blk_put (blk_put BZ28.out 0 (.int .i16 y.f0) rfl) 1 (.int .i16 y.f1) rfl) 2 (.int .i16 y.f2) rfl) 3 (.int .i16 y.f3) rfl) 4 (.int .i16 y.f4) rfl) 5 (.int .i8 y.f5) rfl))); clear hw BZ28 hz28_0 hf28_0 hz28_1 hf28_1 hz28_2 hf28_2 hz28_3 hf28_3 hz28_4 hf28_4 hz28_5 hf28_5); clear h0 h1 h2 h3 h4 h5; (have hc28_0 : wi.cell? ⟨g28, 0, none⟩ = some (.int .i16 y.f0) := (blk_cell BK28.out 0).trans rfl); (have hc28_1 : wi.cell? ⟨g28, 1, none⟩ = some (.int .i16 y.f1) := (blk_cell BK28.out 1).trans rfl); (have hc28_2 : wi.cell? ⟨g28, 2, none⟩ = some (.int .i16 y.f2) := (blk_cell BK28.out 2).trans rfl); (have hc28_3 : wi.cell? ⟨g28, 3, none⟩ = some (.int .i16 y.f3) := (blk_cell BK28.out 3).trans rfl); (have hc28_4 : wi.cell? ⟨g28, 4, none⟩ = some (.int .i16 y.f4) := (blk_cell BK28.out 4).trans rfl); (have hc28_5 : wi.cell? ⟨g28, 5, none⟩ = some (.int .i8 y.f5) := (blk_cell BK28.out 5).trans rfl); (have hf28_0 := blk_frozen BK28.out 0))
        | ((with_reducible refine gate_store (t := 35) (p := 251) rfl ?_); refine store_event (t := 35) (p := 251) (v := ?vs251) (w1 := (wi.setCell ⟨g28, 0, none⟩ (.int .i16 0))) ?hgx251 ?hox251 ?hnx251 ?hrx251 ?_; (case hox251 => rfl); (case hgx251 => rfl); (case hnx251 => rfl); (case hrx251 => first | (go_simp; done) | (go_simp; rfl)); intro wj hw; (have HBj := Aside0.mk (show Below w32.heap.size w32 wj by rw [hw]; exact below_set HBi.out GZ28.out)); (have BKn : Aside0 (wj.heap[g28]? = some (.cells #[.int .i16 0, .int .i16 y.f1, .int .i16 y.f2, .int .i16 y.f3, .int .i16 y.f4, .int .i8 y.f5] 38 (0, 0))) := Aside0.mk (by rw [hw]; exact blk_put BK28.out 0 (.int .i16 0) rfl)); clear BK28; have BK28 := BKn; clear BKn; clear hw; clear hc28_0 hc28_1 hc28_2 hc28_3 hc28_4 hc28_5; clear hf28_0; (have hc28_0 : wj.cell? ⟨g28, 0, none⟩ = some (.int .i16 0) := (blk_cell BK28.out 0).trans rfl); (have hc28_1 : wj.cell? ⟨g28, 1, none⟩ = some (.int .i16 y.f1) := (blk_cell BK28.out 1).trans rfl); (have hc28_2 : wj.cell? ⟨g28, 2, none⟩ = some (.int .i16 y.f2) := (blk_cell BK28.out 2).trans rfl); (have hc28_3 : wj.cell? ⟨g28, 3, none⟩ = some (.int .i16 y.f3) := (blk_cell BK28.out 3).trans rfl); (have hc28_4 : wj.cell? ⟨g28, 4, none⟩ = some (.int .i16 y.f4) := (blk_cell BK28.out 4).trans rfl); (have hc28_5 : wj.cell? ⟨g28, 5, none⟩ = some (.int .i8 y.f5) := (blk_cell BK28.out 5).trans rfl))
        | ((with_reducible refine gate_dst (N := 255) rfl ?_); refine Kd.R_lit k38 _ 38 ?hg255 (N := 255) ?hd255 (xs := [(⟨0, y.f1, y.f2, y.f3, y.f4, y.f5⟩ : S38)]) (inner := [.int .i16 0, .int .i16 y.f1, .int .i16 y.f2, .int .i16 y.f3, .int .i16 y.f4, .int .i8 y.f5]) (ok := fun _ => True) (okp := fun _ => True) ?hr255 ?hp255 (fun _ hk => hk) trivial (Below.refl _ _) (Nat.le_refl _) (by simp) ?_; (case hd255 => rfl); (case hg255 => rfl); (case hr255 => first | (go_simp; done) | (go_simp; rfl)); (case hp255 => exact (Reps.c6 (show Kd.M k38 _ _ _ (⟨0, y.f1, y.f2, y.f3, y.f4, y.f5⟩ : S38) [.int .i16 0, .int .i16 y.f1, .int .i16 y.f2, .int .i16 y.f3, .int .i16 y.f4, .int .i8 y.f5] from (k38_mkM _ _ _ (⟨0, y.f1, y.f2, y.f3, y.f4, y.f5⟩ : S38))) (Reps.none _ _))); intro v255 wk ho hb hg_ hnew_; clear hg_ hnew_; rw [HY2.out] at ho; obtain ⟨At255, ct255, rfl, hs⟩ := ret_sl ho; (have HSt255 := Aside0.mk hs); (have HBk := Aside0.mk (below_step (show Below wj.heap.size wj _ from auB) hb)); clear ho hs hb))
      go_wp2_with (go_at_call 19; (with_reducible refine (impl_DayOf.calls kr37 _ _ Z _ _ Y2 0 V 0 _ auC auL auC auL H37.out).mono ?_); rintro e w37 ⟨v29, rfl, ho29, hb⟩; obtain ⟨A29, c29, rfl, hs29⟩ := ret_sl ho29; (have HS29 := Aside0.mk hs29); clear ho29 hs29; (have HB37 := Aside0.mk (below_step (show Below wk.heap.size wk _ from auB) hb)); clear hb)
      have hlt := HLT.out
      have hql := HQL.out
      go_wp2_with (go_at_call 20; (with_reducible refine (spec_SameRow.calls kr38 _ _ V _ _ V true _ auC auL auC auL H38.out).mono ?_); rintro e w38 ⟨rfl, hb⟩; replace hb := drawn_below hb; (have HB38 := Aside0.mk (below_step (show Below w37.heap.size w37 _ from auB) hb)); clear hb)
      go_roundw
      case rel => exact ⟨i + 1, by have := HLT.out; omega, by go_num, ⟨auE⟩⟩
      case measure => have := HLT.out; simp [intOf]; omega
end FnMissed
end Go.Proofs.Ytmheflciiodhdaa.P
/- The row of the law FnMissed, out of its contract and its plain statement. Written by wip/tools/mkrow.py of this repo. -/
namespace Go.Proofs.Ytmheflciiodhdaa.fnMissed
open Go.ChangeShapes Go.WideShapes Go.ChangeAt Go.RowKit
open Go.ChangeMaps (open_string shut_string)
open Go.Proofs.Ytmheflciiodhdaa.P Go.Proofs.YtmheflciiodhdaaW.PrintWords Go.Proofs.YtmheflciiodhdaaW.PrintLast Go.Proofs.YtmheflciiodhdaaW.PrintMore
set_option linter.unusedVariables false
theorem own : ownKnob Try.prog.godebug = none := by kernel_rfl
theorem laidOut : laidOutB Try.prog = true := by kernel_rfl
set_option maxRecDepth 100000 in
theorem lifted (os : Os) (started : os.Started) (H : Type) (enc : TypeId × Value → H) :
    ReturnsInHanded {} Try.checked os 3 .any (Rows.fnMissedSpec.pre6 enc Try.prog Try.f3 Rows.fnMissedRow.domain false) (Rows.fnMissedSpec.post enc Try.prog Try.f3 false true false false) := by
  refine returnsInHanded_of_change_sized (C := Try.checked) own started (by kernel_rfl) Try.func3
    (ChangeSpec.witness6 (enc := enc) (C := Try.checked) false ⟨#[], #[.slice none 0 0, .slice none 0 0], []⟩ 8 (by kernel_rfl) (by kernel_rfl) (by kernel_rfl) (by kernel_rfl)) ?_
  intro W base args ds gs before hval0 hW hcnd hsz0 _
  have hsz : (DataW.weightsEach Try.prog (Try.f3.params.toList ++ Rows.fnMissedSpec.plain.varTypes Try.prog) (ds ++ gs)).all (· ≤ reachBytes) = true := hsz0
  have hval : ∀ (j : Nat) t v, Try.f3.params[j]? = some t → args[j]? = some v → Value.okWide Try.prog W .any base t v := hval0
  have hW' := hW
  obtain ⟨p, q, hA0, hV, rfl, hfz, hnd⟩ := hW
  have hA : DataW.TrodAll enc Try.prog W 0 (fun _ => true) true Try.f3.params.toList args.toList ds p := hA0
  rw [Try.params3] at hA hval hsz
  obtain ⟨v0, vs0, d0, ds0, p0, q0, hargs, rfl, rfl, h0, r0⟩ := trodAll_cons hA
  obtain ⟨v1, vs1, d1, ds1, p1, q1, rfl, rfl, rfl, h1, r1⟩ := trodAll_cons r0
  obtain ⟨rfl, rfl, rfl⟩ := trodAll_nil r1
  obtain rfl : args = #[v0, v1] := by cases args; simp_all
  obtain ⟨rfl, rfl⟩ := trodVars_none hV
  obtain ⟨a0, len0, cap0, rfl⟩ := okWide_slice Try.underlying22 (hval 0 22 v0 rfl rfl)
  have k0 := h0
  have lt0 : ∀ x ∈ p0, x.block < W.heap.size := by obtain ⟨m, hm⟩ := k0; exact DataW.trod_lt m _ _ _ hm
  obtain ⟨z0, rfl, c0, b0, w0, g0⟩ := Opens.arg (Opens.slice Try.underlying22 (by kernel_rfl) (Opens.int Try.underlying5)) h0
  obtain ⟨a1, len1, cap1, rfl⟩ := okWide_slice Try.underlying22 (hval 1 22 v1 rfl rfl)
  have k1 := h1
  have lt1 : ∀ x ∈ p1, x.block < W.heap.size := by obtain ⟨m, hm⟩ := k1; exact DataW.trod_lt m _ _ _ hm
  obtain ⟨z1, rfl, c1, b1, w1, g1⟩ := Opens.arg (Opens.slice Try.underlying22 (by kernel_rfl) (Opens.int Try.underlying5)) h1
  clear hA0 hval0 hsz0 hsz
  refine (FnMissed.walk a0 cap0 z0 a1 cap1 z1 W w0 c0 w1 c1 g0 b0 g1 b1).mono fun e W' ⟨he, bel⟩ => ?_
  subst he
  exact ⟨_, rfl, _, _, _, [], _, [], hW', trodAll_mk1 (shut_bool Try.underlying4 _), (trodAll_cons_mk (Below.trod laidOut (by kernel_rfl) (of_decide_eq_true (by kernel_rfl)) k0 bel lt0) (trodAll_cons_mk (Below.trod laidOut (by kernel_rfl) (of_decide_eq_true (by kernel_rfl)) k1 bel lt1) trodAll_mk0)), rfl, bel.frame _, fun h => by cases h⟩
theorem over : Rows.fnMissedRow.holds Try.pinned (OpenSpec.ofChange Rows.fnMissedSpec) :=
  OpenClaim.holds_of_wide 3 Try.f3 rfl rfl rfl rfl rfl rfl rfl ⟨rfl, rfl, rfl, rfl, rfl⟩ rfl rfl rfl rfl rfl (by kernel_rfl) Try.func3 (by kernel_rfl)
    (of_decide_eq_true (by kernel_rfl)) (by unfold Func.isWrapper; first | (rw [if_pos (by decide +kernel)]; kernel_rfl) | (rw [if_neg (by decide +kernel)]; exact ⟨rfl, rfl⟩))
    (fun os started H enc _ => lifted os started H enc)
theorem proved : Rows.FnMissedSaid := over
end Go.Proofs.Ytmheflciiodhdaa.fnMissed
namespace Go.Proofs.Ytmheflciiodhdaa
/-- The row, under a short name, for the claim. -/
theorem fnMissed_holds : Rows.FnMissedSaid := fnMissed.proved
end Go.Proofs.Ytmheflciiodhdaa
