/- Part 4 of the proof of the law FnTurned: contracts of the functions it reaches. -/
import Derived.Test.YtmheflciiodhdaaKFnTurnedw22
import Derived.Test.YtmheflciiodhdaaKFnTurnedx3
import Derived.Test.YtmheflciiodhdaaKFnTurnedx2
import Derived.WalkSmall
import Derived.Test.YtmheflciiodhdaaKFnTurnedx1
-- Written by wip/tools/mkprint.py of this repo, over the kit's print, out of the translation; Lean checks it.
namespace Go.Proofs.Ytmheflciiodhdaa.P
open Go.RowKit Go.Proofs.YtmheflciiodhdaaW.PrintWords Go.Proofs.YtmheflciiodhdaaW.PrintLast Go.Proofs.YtmheflciiodhdaaW.PrintMore
attribute [local go_sem] max2_int min2_int max_two min_two max_three min_three max_four min_four   -- for this text's walks alone
set_option linter.unusedVariables false
set_option linter.unusedSimpArgs false
/-! ### spec_P6Walkers: function 10 -/
def spec_P6Walkers.l0 : Nat → Int → List (S38) → Int → List Int → Int → Int → Option ((List (S38)))
  | 0, _, _, _, _, _, _ => none
  | k + 1, x1, x6, x7, x164000, x164001, x164002 => if x7 > 0 then ((spec_l05One.f x164000 x164001 x164002 x1).bind fun bt170 => (if x6.length < 11728124029610 then (spec_P6Walkers.l0 k x1 (x6 ++ [(⟨bt170.1, bt170.2.1, bt170.2.2.1, bt170.2.2.2.1, bt170.2.2.2.2.1, bt170.2.2.2.2.2.1⟩ : S38)]) (wrap64 (x7 - 1)) x164000 bt170.2.2.2.2.2.2.1 bt170.2.2.2.2.2.2.2) else (none))) else (some x6)
def spec_P6Walkers.f (k : Nat) (l0 : List Int) (a1 : Int) : Option ((List (S38))) := (spec_l00From.f l0).bind fun bt160 => ((spec_l00Src_pick.f bt160.1 bt160.2.1 bt160.2.2 4).bind fun bt167 => (spec_P6Walkers.l0 k a1 (([] : List (S38))) bt167.1 bt160.1 bt167.2.1 bt167.2.2))
theorem spec_P6Walkers.mono_l : ∀ k, (∀ y0 y1 y2 y3 y4 y5, LeO (spec_P6Walkers.l0 k y0 y1 y2 y3 y4 y5) (spec_P6Walkers.l0 (k + 1) y0 y1 y2 y3 y4 y5))
  | 0 => fun _ _ _ _ _ _ r h => by simp [spec_P6Walkers.l0] at h
  | k + 1 => by
    have ih0 := spec_P6Walkers.mono_l k
    · intro y0 y1 y2 y3 y4 y5
      unfold spec_P6Walkers.l0
      repeat' first
      | (with_reducible exact ih0 _ _ _ _ _ _)
      | (with_reducible exact LeO.refl _)
      | (with_reducible exact LeO.none _)
      | (with_reducible refine LeO.ite ?_ ?_)
      | (with_reducible refine LeO.bind ?_ (fun _ => ?_))
      | exact ih0 _ _ _ _ _ _
      | exact LeO.none _
      | refine LeO.ite ?_ ?_
      | refine LeO.bind ?_ (fun _ => ?_)
theorem spec_P6Walkers.mono : ∀ a0 a1 k, LeO (spec_P6Walkers.f k a0 a1) (spec_P6Walkers.f (k + 1) a0 a1) := by
  intro a0 a1 k
  have ih0 := spec_P6Walkers.mono_l k
  unfold spec_P6Walkers.f
  repeat' first
      | (with_reducible exact ih0 _ _ _ _ _ _)
      | (with_reducible exact LeO.refl _)
      | (with_reducible exact LeO.none _)
      | (with_reducible refine LeO.ite ?_ ?_)
      | (with_reducible refine LeO.bind ?_ (fun _ => ?_))
      | exact ih0 _ _ _ _ _ _
      | exact LeO.none _
      | refine LeO.ite ?_ ?_
      | refine LeO.bind ?_ (fun _ => ?_)
set_option maxHeartbeats 8000000 in
set_option maxRecDepth 100000 in
theorem spec_P6Walkers.calls (k : Nat) (A0 : Option Addr) (c0 : Nat) (l0 : List Int) (a1 : Int) (r : List (S38)) (w : World) (hr0 : Kd.C (Kd.int .u8) w A0 l0.length l0) (hc0 : l0.length ≤ c0) (h : spec_P6Walkers.f k l0 a1 = some r) :
    Calls Try.prog 10 #[.slice A0 l0.length c0, .int .i64 a1] w fun e w' => ∃ v0_ : Value, e = .returned (v0_) ∧ Kd.R k38 38 w' w.heap.size (fun _ => True) v0_ r ∧ Below w.heap.size w w' := by
  have HR0 := Aside0.mk hr0
  have HC0 := Aside0.mk hc0
  clear hr0 hc0
  have HB := Aside0.mk (Below.refl w.heap.size w)
  have H : ((spec_l00From.f l0).bind fun bt160 => ((spec_l00Src_pick.f bt160.1 bt160.2.1 bt160.2.2 4).bind fun bt167 => (spec_P6Walkers.l0 k a1 (([] : List (S38))) bt167.1 bt160.1 bt167.2.1 bt167.2.2))) = some r := h
  clear h
  replace H := Option.bind_eq_some_iff.mp H
  obtain ⟨⟨t160, t161, t162⟩, A30, H⟩ := H
  replace H : ((spec_l00Src_pick.f t160 t161 t162 4).bind fun bt167 => (spec_P6Walkers.l0 k a1 (([] : List (S38))) bt167.1 t160 bt167.2.1 bt167.2.2)) = some r := H
  have A3 := Aside0.mk A30
  clear A30
  obtain ⟨y164, hy164⟩ : ∃ y_ : List (S38), y_ = (([] : List (S38))) := ⟨_, rfl⟩
  replace H : ((spec_l00Src_pick.f t160 t161 t162 4).bind fun bt167 => (spec_P6Walkers.l0 k a1 y164 bt167.1 t160 bt167.2.1 bt167.2.2)) = some r := by first | (rw [hy164]; with_reducible exact H) | (have H2_ := (Option.bind_some _ _).symm.trans H; rw [hy164]; with_reducible exact H2_) | (have H2_ := (Option.bind_some _ _).symm.trans H; with_reducible exact H2_) | with_reducible exact H | (rw [hy164]; exact H) | exact H
  have Ny164 := Aside0.mk hy164
  clear hy164
  replace H := Option.bind_eq_some_iff.mp H
  obtain ⟨⟨t167, t168, t169⟩, A40, H⟩ := H
  replace H : (spec_P6Walkers.l0 k a1 y164 t167 t160 t168 t169) = some r := H
  have A4 := Aside0.mk A40
  clear A40
  have H' := Aside0.mk H
  clear H
  go_enter Try.func10, Try.ntmps10
  go_wp2_with (first | ((with_reducible refine gate_callee (f := 61) rfl ?_); refine goesL_ (some 9) rfl rfl Try.func61 (by kernel_rfl) rfl #[.slice A0 l0.length c0] rfl (by (try simp only [List.map_toArray, List.map_cons, List.map_nil]); first | done | rfl | (simp only [List.length_drop, List.length_take]; rfl)) ?_; (with_reducible refine (spec_l00From.calls _ _ l0 t160 t161 t162 w _ ?side1 ?side2 ?side3 A3.out).mono ?_); (case side1 => repeat (first | (with_reducible first | exact HB.out | apply below_alloc | apply pw_below_drewN | apply below_drew1) | exact HB.out)); (case side2 => exact HR0.out); (case side3 => exact HC0.out); rintro e w5 ⟨g163, rfl, hi, hb, hb2⟩; refine ⟨_, rfl, ?_⟩; have n0_ := Aside0.mk (hb); have n1_ := Aside0.mk (hi); clear HB; have HB := n0_; have HI163 := n1_; clear n0_ n1_; (try clear hb); (try clear hb2); (try clear hk); (try clear hi)) | ((with_reducible refine gate_dst (N := 10) rfl ?_); refine Kd.R_lit k38 _ 38 ?hg (N := 10) ?hd (xs := ([] : List (S38))) (inner := []) (ok := fun _ => True) (okp := fun _ => True) ?hr ?hp (fun _ hk => hk) trivial (Below.refl _ _) (Nat.le_refl _) (by simp) ?_; (case hd => rfl); (case hg => rfl); (case hr => first | (go_simp; done) | (go_simp; rfl)); (case hp => exact (Reps.none _ _)); intro v165 w6 ho7 hb hg_ hnew_; clear hg_ hnew_; (first | rw [← Ny164.out] at ho7 | (simp only [Int.reduceToNat] at ho7; rw [← Ny164.out] at ho7)); have n0_ := Aside0.mk (Kd.R_lower ho7 (below_size (by repeat (first | (with_reducible first | exact HB.out | apply below_alloc | apply pw_below_drewN | apply below_drew1 | refine below_set ?_ (IsS111.ge HI163.out)) | exact HB.out)))); have n1_ := Aside0.mk (IsS111.below (by repeat (first | (with_reducible first | exact HI163.out | apply IsS111.alloc | apply IsS111.drewN | apply IsS111.drew | apply IsS111.set_1 | apply IsS111.set_2) | exact HI163.out)) hb); have n2_ := Aside0.mk (below_step (by repeat (first | (with_reducible first | exact HB.out | apply below_alloc | apply pw_below_drewN | apply below_drew1 | refine below_set ?_ (IsS111.ge HI163.out)) | exact HB.out)) hb); clear HI163; clear HB; have HO166 := n0_; have HI163 := n1_; have HB := n2_; clear n0_ n1_ n2_; clear hb ho7) | ((with_reducible refine gate_callee (f := 62) rfl ?_); refine goesL_ (some 12) rfl rfl Try.func62 (by kernel_rfl) rfl #[.pointer (some ⟨g163, 0, none⟩), .int .i64 4] rfl (by (try simp only [List.map_toArray, List.map_cons, List.map_nil]); first | done | rfl | (simp only [List.length_drop, List.length_take]; rfl)) ?_; (with_reducible refine (spec_l00Src_pick.calls g163 t160 t161 t162 4 t167 t168 t169 w _ ?side1 ?side2 A4.out).mono ?_); (case side1 => repeat (first | (with_reducible first | exact HI163.out | apply IsS111.alloc | apply IsS111.drewN | apply IsS111.drew | apply IsS111.set_1 | apply IsS111.set_2) | exact HI163.out)); (case side2 => repeat (first | (with_reducible first | exact HB.out | apply below_alloc | apply pw_below_drewN | apply below_drew1 | refine below_set ?_ (IsS111.ge HI163.out)) | exact HB.out)); rintro e w8 ⟨rfl, hi, hb, hk⟩; refine ⟨_, rfl, ?_⟩; have n0_ := Aside0.mk (Kd.R_mono (Kd.R_keep (IsS111.apart (show IsS111 w _ g163 t160 t161 t162 from by repeat (first | (with_reducible first | exact HI163.out | apply IsS111.alloc | apply IsS111.drewN | apply IsS111.drew | apply IsS111.set_1 | apply IsS111.set_2) | exact HI163.out)) (by (with_reducible repeat (first | apply Kd.R_alloc | apply Kd.R_drewN | apply Kd.R_drew)); exact HO166.out) (by decide)) hk (fun _ h => h.2)) (fun _ h => h.1)); have n1_ := Aside0.mk (hb); have n2_ := Aside0.mk (hi); clear HO166; clear HB; clear HI163; have HO166 := n0_; have HB := n1_; have HI163 := n2_; clear n0_ n1_ n2_; (try clear hb); (try clear hb2); (try clear hk); (try clear hi)))
  go_loopg [6, 7] k (fun kq v6 v7 w' => ∃ (x6_1 : List (S38)) (x7_1 : Int) (x164001_1 : Int) (x164002_1 : Int), v7 = .int .i64 x7_1 ∧ Aside0 (spec_P6Walkers.l0 kq a1 x6_1 x7_1 t160 x164001_1 x164002_1 = some r) ∧ Aside0 (kq ≤ k) ∧ Aside0 (Kd.R k38 38 w' w.heap.size (fun _ => True) v6 x6_1) ∧ Aside0 (IsS111 w w' g163 t160 x164001_1 x164002_1) ∧ Aside0 (Below w.heap.size w w'))
  case atStart => exact ⟨(y164), (t167), (t168), (t169), (by first | rfl | (simp; done) | (simp [*]; done)), H', ⟨Nat.le_refl _⟩, ⟨by (with_reducible repeat (first | apply Kd.R_alloc | apply Kd.R_drewN | apply Kd.R_drew)); exact HO166.out⟩, ⟨by repeat (first | (with_reducible first | exact HI163.out | apply IsS111.alloc | apply IsS111.drewN | apply IsS111.drew | apply IsS111.set_1 | apply IsS111.set_2) | exact HI163.out)⟩, ⟨by repeat (first | (with_reducible first | exact HB.out | apply below_alloc | apply pw_below_drewN | apply below_drew1 | refine below_set ?_ (IsS111.ge HI163.out)) | exact HB.out)⟩⟩
  case round =>
    clear H'
    try clear c1
    try clear p2
    try clear c6
    obtain ⟨x6_1, x7_1, x164001_1, x164002_1, rfl, HA, HK1, HO_6, HI163, HB⟩ := hrel
    cases gk with
    | zero => exact absurd HA.out (by simp [spec_P6Walkers.l0])
    | succ k1 =>
      have H := HA.out
      clear HA
      simp only [spec_P6Walkers.l0] at H
      by_cases c9 : x7_1 > 0
      · rw [if_pos c9] at H
        have c9b0 : decide (0 < x7_1) = true := decide_eq_true c9
        clear c9
        replace H := Option.bind_eq_some_iff.mp H
        obtain ⟨⟨t170, t171, t172, t173, t174, t175, t176, t177⟩, A100, H⟩ := H
        replace H : (if x6_1.length < 11728124029610 then (spec_P6Walkers.l0 k1 a1 (x6_1 ++ [(⟨t170, t171, t172, t173, t174, t175⟩ : S38)]) (wrap64 (x7_1 - 1)) t160 t176 t177) else (none)) = some r := H
        have A10 := Aside0.mk A100
        clear A100
        by_cases c11 : x6_1.length < 11728124029610
        · rw [if_pos c11] at H
          have LMc11 := Aside0.mk c11
          clear c11
          obtain ⟨y178, hy178⟩ : ∃ y_ : List (S38), y_ = (x6_1 ++ [(⟨t170, t171, t172, t173, t174, t175⟩ : S38)]) := ⟨_, rfl⟩
          replace H : (spec_P6Walkers.l0 k1 a1 y178 (wrap64 (x7_1 - 1)) t160 t176 t177) = some r := by first | (rw [hy178]; with_reducible exact H) | (have H2_ := (Option.bind_some _ _).symm.trans H; rw [hy178]; with_reducible exact H2_) | (have H2_ := (Option.bind_some _ _).symm.trans H; with_reducible exact H2_) | with_reducible exact H | (rw [hy178]; exact H) | exact H
          have Ny178 := Aside0.mk hy178
          clear hy178
          have H' := Aside0.mk H
          clear H
          go_wp2_with (first | ((with_reducible refine gate_callee (f := 63) rfl ?_); refine goesL_ (some 20) rfl rfl Try.func63 (by kernel_rfl) rfl #[.pointer (some ⟨g163, 0, none⟩), .int .i64 a1] rfl (by (try simp only [List.map_toArray, List.map_cons, List.map_nil]); first | done | rfl | (simp only [List.length_drop, List.length_take]; rfl)) ?_; (with_reducible refine (spec_l05One.calls g163 t160 x164001_1 x164002_1 a1 t170 t171 t172 t173 t174 t175 t176 t177 w _ ?side1 ?side2 A10.out).mono ?_); (case side1 => repeat (first | (with_reducible first | exact HI163.out | apply IsS111.alloc | apply IsS111.drewN | apply IsS111.drew | apply IsS111.set_1 | apply IsS111.set_2) | exact HI163.out)); (case side2 => repeat (first | (with_reducible first | exact HB.out | apply below_alloc | apply pw_below_drewN | apply below_drew1 | refine below_set ?_ (IsS111.ge HI163.out)) | exact HB.out)); rintro e w12 ⟨rfl, hi, hb, hk⟩; refine ⟨_, rfl, ?_⟩; have n0_ := Aside0.mk (Kd.R_mono (Kd.R_keep (IsS111.apart (show IsS111 w _ g163 t160 x164001_1 x164002_1 from by repeat (first | (with_reducible first | exact HI163.out | apply IsS111.alloc | apply IsS111.drewN | apply IsS111.drew | apply IsS111.set_1 | apply IsS111.set_2) | exact HI163.out)) (by (with_reducible repeat (first | apply Kd.R_alloc | apply Kd.R_drewN | apply Kd.R_drew)); exact HO_6.out) (by decide)) hk (fun _ h => h.2)) (fun _ h => h.1)); have n1_ := Aside0.mk (hb); have n2_ := Aside0.mk (hi); clear HO_6; clear HB; clear HI163; have HO_6 := n0_; have HB := n1_; have HI163 := n2_; clear n0_ n1_ n2_; (try clear hb); (try clear hb2); (try clear hk); (try clear hi)) | ((with_reducible refine gate_builtin (b := .append) (xs := #[.tmp 17, .tmp 21]) rfl ?_); at_builtin; refine Kd.R_append k38 (w0 := w) w.heap.size rfl (.tmp 17) (.tmp 21) 26 38 (.agg #[(.int .i16 0), (.int .i16 0), (.int .i16 0), (.int .i16 0), (.int .i16 0), (.int .i8 0)]) 12 rfl Try.underlying26 info38 rfl (by decide) (by omega) u6 x6_1 (⟨t170, t171, t172, t173, t174, t175⟩ : S38) [.int .i16 t170, .int .i16 t171, .int .i16 t172, .int .i16 t173, .int .i16 t174, .int .i8 t175] (fun _ => True) (fun _ => False) rfl rfl ?aP (fun _ hk => hk.elim) ?aF ?aO ?aB ?aS ?aL ?_; (case aP => exact k38_mkM _ _ _ (⟨t170, t171, t172, t173, t174, t175⟩ : S38)); (case aB => exact (by repeat (first | (with_reducible first | exact HB.out | apply below_alloc | apply pw_below_drewN | apply below_drew1 | refine below_set ?_ (IsS111.ge HI163.out)) | exact HB.out))); (case aF => exact (fun _ _ => trivial)); (case aO => exact (by (with_reducible repeat (first | apply Kd.R_alloc | apply Kd.R_drewN | apply Kd.R_drew)); exact HO_6.out)); (case aS => exact (below_size (by repeat (first | (with_reducible first | exact HB.out | apply below_alloc | apply pw_below_drewN | apply below_drew1 | refine below_set ?_ (IsS111.ge HI163.out)) | exact HB.out)))); (case aL => have := LMc11.out; omega); intro v179 w13 ho hb hg hat; rw [← Ny178.out] at ho; have n0_ := Aside0.mk (IsS111.grown (by repeat (first | (with_reducible first | exact HI163.out | apply IsS111.alloc | apply IsS111.drewN | apply IsS111.drew | apply IsS111.set_1 | apply IsS111.set_2) | exact HI163.out)) hg (IsS111.own_ne HI163.out HO_6.out (by decide))); have n1_ := Aside0.mk (hb); have n2_ := Aside0.mk (ho); clear HI163; clear HB; clear HO_6; have HI163 := n0_; have HB := n1_; have HO180 := n2_; clear n0_ n1_ n2_; clear ho hb hg hat))
          go_roundg k1
          case measure => have := HK1.out; omega
          case rel => exact ⟨(y178), (wrap64 (x7_1 - 1)), (t176), (t177), (by first | rfl | (simp; done) | (simp [*]; done)), H', ⟨by have := HK1.out; omega⟩, ⟨by (with_reducible repeat (first | apply Kd.R_alloc | apply Kd.R_drewN | apply Kd.R_drew)); exact HO180.out⟩, ⟨by repeat (first | (with_reducible first | exact HI163.out | apply IsS111.alloc | apply IsS111.drewN | apply IsS111.drew | apply IsS111.set_1 | apply IsS111.set_2) | exact HI163.out)⟩, ⟨by repeat (first | (with_reducible first | exact HB.out | apply below_alloc | apply pw_below_drewN | apply below_drew1 | refine below_set ?_ (IsS111.ge HI163.out)) | exact HB.out)⟩⟩
        · rw [if_neg c11] at H
          exact absurd H (by simp)
      · rw [if_neg c9] at H
        have c9b0 : decide (0 < x7_1) = false := decide_eq_false c9
        clear c9
        obtain rfl := Option.some.inj H
        go_wp2
        go_ret
        exact ⟨_, by first | rfl | (simp [errW_none, errW_some] <;> rfl) | (simp [*, errW_none, errW_some] <;> rfl), by (with_reducible repeat (first | apply Kd.R_alloc | apply Kd.R_drewN | apply Kd.R_drew)); exact HO_6.out, by repeat (first | (with_reducible first | exact HB.out | apply below_alloc | apply pw_below_drewN | apply below_drew1 | refine below_set ?_ (IsS111.ge HI163.out)) | exact HB.out)⟩
end Go.Proofs.Ytmheflciiodhdaa.P
-- Written by wip/tools/mkprint.py of this repo, over the kit's print, out of the translation; Lean checks it.
namespace Go.Proofs.Ytmheflciiodhdaa.P
open Go.RowKit Go.Proofs.YtmheflciiodhdaaW.PrintWords Go.Proofs.YtmheflciiodhdaaW.PrintLast Go.Proofs.YtmheflciiodhdaaW.PrintMore
attribute [local go_sem] max2_int min2_int max_two min_two max_three min_three max_four min_four   -- for this text's walks alone
set_option linter.unusedVariables false
set_option linter.unusedSimpArgs false
/-! ### spec_P6Pick: function 11 -/
def spec_P6Pick.f (l0 : List Int) (a1 : Int) : Option (Int) := (spec_l00From.f l0).bind fun bt181 => ((spec_l00Src_pick.f bt181.1 bt181.2.1 bt181.2.2 a1).bind fun bt185 => (some bt185.1))
set_option maxHeartbeats 8000000 in
set_option maxRecDepth 100000 in
theorem spec_P6Pick.calls (A0 : Option Addr) (c0 : Nat) (l0 : List Int) (a1 : Int) (r : Int) (w : World) (hr0 : Kd.C (Kd.int .u8) w A0 l0.length l0) (hc0 : l0.length ≤ c0) (h : spec_P6Pick.f l0 a1 = some r) :
    Calls Try.prog 11 #[.slice A0 l0.length c0, .int .i64 a1] w fun e w' => e = .returned (.int .i64 r) ∧ Below w.heap.size w w' := by
  have HR0 := Aside0.mk hr0
  have HC0 := Aside0.mk hc0
  clear hr0 hc0
  have HB := Aside0.mk (Below.refl w.heap.size w)
  have H : ((spec_l00From.f l0).bind fun bt181 => ((spec_l00Src_pick.f bt181.1 bt181.2.1 bt181.2.2 a1).bind fun bt185 => (some bt185.1))) = some r := h
  clear h
  replace H := Option.bind_eq_some_iff.mp H
  obtain ⟨⟨t181, t182, t183⟩, A30, H⟩ := H
  replace H : ((spec_l00Src_pick.f t181 t182 t183 a1).bind fun bt185 => (some bt185.1)) = some r := H
  have A3 := Aside0.mk A30
  clear A30
  replace H := Option.bind_eq_some_iff.mp H
  obtain ⟨⟨t185, t186, t187⟩, A40, H⟩ := H
  replace H : (some t185) = some r := H
  have A4 := Aside0.mk A40
  clear A40
  obtain rfl := Option.some.inj H
  go_enter Try.func11, Try.ntmps11
  go_wp2_with (first | ((with_reducible refine gate_callee (f := 61) rfl ?_); refine goesL_ (some 6) rfl rfl Try.func61 (by kernel_rfl) rfl #[.slice A0 l0.length c0] rfl (by (try simp only [List.map_toArray, List.map_cons, List.map_nil]); first | done | rfl | (simp only [List.length_drop, List.length_take]; rfl)) ?_; (with_reducible refine (spec_l00From.calls _ _ l0 t181 t182 t183 w _ ?side1 ?side2 ?side3 A3.out).mono ?_); (case side1 => repeat (first | (with_reducible first | exact HB.out | apply below_alloc | apply pw_below_drewN | apply below_drew1) | exact HB.out)); (case side2 => exact HR0.out); (case side3 => exact HC0.out); rintro e w5 ⟨g184, rfl, hi, hb, hb2⟩; refine ⟨_, rfl, ?_⟩; have n0_ := Aside0.mk (hb); have n1_ := Aside0.mk (hi); clear HB; have HB := n0_; have HI184 := n1_; clear n0_ n1_; (try clear hb); (try clear hb2); (try clear hk); (try clear hi)) | ((with_reducible refine gate_callee (f := 62) rfl ?_); refine goesL_ (some 8) rfl rfl Try.func62 (by kernel_rfl) rfl #[.pointer (some ⟨g184, 0, none⟩), .int .i64 a1] rfl (by (try simp only [List.map_toArray, List.map_cons, List.map_nil]); first | done | rfl | (simp only [List.length_drop, List.length_take]; rfl)) ?_; (with_reducible refine (spec_l00Src_pick.calls g184 t181 t182 t183 a1 t185 t186 t187 w _ ?side1 ?side2 A4.out).mono ?_); (case side1 => repeat (first | (with_reducible first | exact HI184.out | apply IsS111.alloc | apply IsS111.drewN | apply IsS111.drew | apply IsS111.set_1 | apply IsS111.set_2) | exact HI184.out)); (case side2 => repeat (first | (with_reducible first | exact HB.out | apply below_alloc | apply pw_below_drewN | apply below_drew1 | refine below_set ?_ (IsS111.ge HI184.out)) | exact HB.out)); rintro e w6 ⟨rfl, hi, hb, hk⟩; refine ⟨_, rfl, ?_⟩; have n0_ := Aside0.mk (hb); have n1_ := Aside0.mk (hi); clear HB; clear HI184; have HB := n0_; have HI184 := n1_; clear n0_ n1_; (try clear hb); (try clear hb2); (try clear hk); (try clear hi)))
  go_ret
  exact ⟨by first | rfl | (simp [errW_none, errW_some] <;> rfl) | (simp [*, errW_none, errW_some] <;> rfl), by repeat (first | (with_reducible first | exact HB.out | apply below_alloc | apply pw_below_drewN | apply below_drew1 | refine below_set ?_ (IsS111.ge HI184.out)) | exact HB.out)⟩
end Go.Proofs.Ytmheflciiodhdaa.P
-- Written by wip/tools/mkprint.py of this repo, over the kit's print, out of the translation; Lean checks it.
namespace Go.Proofs.Ytmheflciiodhdaa.P
open Go.RowKit Go.Proofs.YtmheflciiodhdaaW.PrintWords Go.Proofs.YtmheflciiodhdaaW.PrintLast Go.Proofs.YtmheflciiodhdaaW.PrintMore
attribute [local go_sem] max2_int min2_int max_two min_two max_three min_three max_four min_four   -- for this text's walks alone
set_option linter.unusedVariables false
set_option linter.unusedSimpArgs false
/-! ### impl_WalksOn: function 18 -/
def impl_WalksOn.f (a0 : Int) (a1_0 : Int) (a1_1 : Int) (a1_2 : Int) (a1_3 : Int) (a1_4 : Int) (a1_5 : Int) (a2 : Int) : Option (Bool × Int) := (impl_ValidWalkers.f a0 (([(⟨a1_0, a1_1, a1_2, a1_3, a1_4, a1_5⟩ : S38)] : List (S38)))).bind fun t284 => ((impl_isDay.f (([a2] : List Int))).bind fun t288 => ((impl_codeOf.f t284 t288).bind fun t289 => (if t289 = 0 then ((impl_Walker_comes.f a1_0 a1_1 a1_2 a1_3 a1_4 a1_5 a2).bind fun t290 => (some (t290, 0))) else (some (false, t289)))))
set_option maxHeartbeats 8000000 in
set_option maxRecDepth 100000 in
theorem impl_WalksOn.calls (a0 : Int) (a1_0 : Int) (a1_1 : Int) (a1_2 : Int) (a1_3 : Int) (a1_4 : Int) (a1_5 : Int) (a2 : Int) (r1 : Bool) (r2 : Int) (w : World) (h : impl_WalksOn.f a0 a1_0 a1_1 a1_2 a1_3 a1_4 a1_5 a2 = some (r1, r2)) :
    Calls Try.prog 18 #[.int .i64 a0, .agg #[.int .i16 a1_0, .int .i16 a1_1, .int .i16 a1_2, .int .i16 a1_3, .int .i16 a1_4, .int .i8 a1_5], .int .i64 a2] w fun e w' => e = .returned (.tuple #[.bool r1, .int .i64 r2]) ∧ Below w.heap.size w w' := by
  have hu38 := Try.underlying38
  have HB := Aside0.mk (Below.refl w.heap.size w)
  have H : ((impl_ValidWalkers.f a0 (([(⟨a1_0, a1_1, a1_2, a1_3, a1_4, a1_5⟩ : S38)] : List (S38)))).bind fun t284 => ((impl_isDay.f (([a2] : List Int))).bind fun t288 => ((impl_codeOf.f t284 t288).bind fun t289 => (if t289 = 0 then ((impl_Walker_comes.f a1_0 a1_1 a1_2 a1_3 a1_4 a1_5 a2).bind fun t290 => (some (t290, 0))) else (some (false, t289)))))) = some (r1, r2) := h
  clear h
  obtain ⟨y281, hy281⟩ : ∃ y_ : List (S38), y_ = (([(⟨a1_0, a1_1, a1_2, a1_3, a1_4, a1_5⟩ : S38)] : List (S38))) := ⟨_, rfl⟩
  replace H : ((impl_ValidWalkers.f a0 y281).bind fun t284 => ((impl_isDay.f (([a2] : List Int))).bind fun t288 => ((impl_codeOf.f t284 t288).bind fun t289 => (if t289 = 0 then ((impl_Walker_comes.f a1_0 a1_1 a1_2 a1_3 a1_4 a1_5 a2).bind fun t290 => (some (t290, 0))) else (some (false, t289)))))) = some (r1, r2) := by first | (rw [hy281]; with_reducible exact H) | (have H2_ := (Option.bind_some _ _).symm.trans H; rw [hy281]; with_reducible exact H2_) | (have H2_ := (Option.bind_some _ _).symm.trans H; with_reducible exact H2_) | with_reducible exact H | (rw [hy281]; exact H) | exact H
  have Ny281 := Aside0.mk hy281
  clear hy281
  replace H := Option.bind_eq_some_iff.mp H
  obtain ⟨t284, A40, H⟩ := H
  replace H : ((impl_isDay.f (([a2] : List Int))).bind fun t288 => ((impl_codeOf.f t284 t288).bind fun t289 => (if t289 = 0 then ((impl_Walker_comes.f a1_0 a1_1 a1_2 a1_3 a1_4 a1_5 a2).bind fun t290 => (some (t290, 0))) else (some (false, t289))))) = some (r1, r2) := H
  have A4 := Aside0.mk A40
  clear A40
  obtain ⟨y285, hy285⟩ : ∃ y_ : List Int, y_ = (([a2] : List Int)) := ⟨_, rfl⟩
  replace H : ((impl_isDay.f y285).bind fun t288 => ((impl_codeOf.f t284 t288).bind fun t289 => (if t289 = 0 then ((impl_Walker_comes.f a1_0 a1_1 a1_2 a1_3 a1_4 a1_5 a2).bind fun t290 => (some (t290, 0))) else (some (false, t289))))) = some (r1, r2) := by first | (rw [hy285]; with_reducible exact H) | (have H2_ := (Option.bind_some _ _).symm.trans H; rw [hy285]; with_reducible exact H2_) | (have H2_ := (Option.bind_some _ _).symm.trans H; with_reducible exact H2_) | with_reducible exact H | (rw [hy285]; exact H) | exact H
  have Ny285 := Aside0.mk hy285
  clear hy285
  replace H := Option.bind_eq_some_iff.mp H
  obtain ⟨t288, A50, H⟩ := H
  replace H : ((impl_codeOf.f t284 t288).bind fun t289 => (if t289 = 0 then ((impl_Walker_comes.f a1_0 a1_1 a1_2 a1_3 a1_4 a1_5 a2).bind fun t290 => (some (t290, 0))) else (some (false, t289)))) = some (r1, r2) := H
  have A5 := Aside0.mk A50
  clear A50
  replace H := Option.bind_eq_some_iff.mp H
  obtain ⟨t289, A60, H⟩ := H
  replace H : (if t289 = 0 then ((impl_Walker_comes.f a1_0 a1_1 a1_2 a1_3 a1_4 a1_5 a2).bind fun t290 => (some (t290, 0))) else (some (false, t289))) = some (r1, r2) := H
  have A6 := Aside0.mk A60
  clear A60
  by_cases c7 : t289 = 0
  · rw [if_pos c7] at H
    have c7b0 : (t289 == 0) = true := beq_iff_eq.mpr c7
    have c7b1 : (t289 != 0) = false := bne_eq_false_iff_eq.mpr c7
    clear c7
    replace H := Option.bind_eq_some_iff.mp H
    obtain ⟨t290, A80, H⟩ := H
    replace H : (some (t290, 0)) = some (r1, r2) := H
    have A8 := Aside0.mk A80
    clear A80
    simp only [Option.some.injEq, Prod.mk.injEq] at H
    obtain ⟨rfl, rfl⟩ := H
    go_enter Try.func18, Try.ntmps18
    go_wp2_with (first | ((with_reducible refine gate_dst (N := 4) rfl ?_); refine box_event ?hg (N := 4) ?hd (cs := #[.int .i16 a1_0, .int .i16 a1_1, .int .i16 a1_2, .int .i16 a1_3, .int .i16 a1_4, .int .i8 a1_5]) (t := 38) ?hr ?_; (case hd => rfl); (case hg => rfl); (case hr => first | (go_simp; done) | (go_simp; rfl)); intro gb280 hg w9 hbox hb; have n0_ := Aside0.mk (below_step (by repeat (first | (with_reducible first | exact HB.out | apply below_alloc | apply pw_below_drewN | apply below_drew1) | exact HB.out)) hb); have n1_ := Aside0.mk (hbox); have n2_ := Aside0.mk ((by rw [hg]; exact (below_size (by repeat (first | (with_reducible first | exact HB.out | apply below_alloc | apply pw_below_drewN | apply below_drew1) | exact HB.out))) : w.heap.size ≤ gb280)); have n3_ := Aside0.mk ((by rw [hg]; exact (below_size (by repeat (first | (with_reducible first | exact HB.out | apply below_alloc | apply pw_below_drewN | apply below_drew1) | exact HB.out))) : w.heap.size ≤ gb280)); clear HB; have HB := n0_; have BK280 := n1_; have GW280 := n2_; have GE280 := n3_; clear n0_ n1_ n2_ n3_; clear hb hbox hg; have hcz10_0 : w9.cell? ⟨gb280, 0, none⟩ = some (.int .i16 a1_0) := (blk_cell BK280.out 0).trans rfl; have hcz10_1 : w9.cell? ⟨gb280, 1, none⟩ = some (.int .i16 a1_1) := (blk_cell BK280.out 1).trans rfl; have hcz10_2 : w9.cell? ⟨gb280, 2, none⟩ = some (.int .i16 a1_2) := (blk_cell BK280.out 2).trans rfl; have hcz10_3 : w9.cell? ⟨gb280, 3, none⟩ = some (.int .i16 a1_3) := (blk_cell BK280.out 3).trans rfl; have hcz10_4 : w9.cell? ⟨gb280, 4, none⟩ = some (.int .i16 a1_4) := (blk_cell BK280.out 4).trans rfl; have hcz10_5 : w9.cell? ⟨gb280, 5, none⟩ = some (.int .i8 a1_5) := (blk_cell BK280.out 5).trans rfl; have hfz10_0 := blk_frozen BK280.out 0; have hfz10_1 := blk_frozen BK280.out 1; have hfz10_2 := blk_frozen BK280.out 2; have hfz10_3 := blk_frozen BK280.out 3; have hfz10_4 := blk_frozen BK280.out 4; have hfz10_5 := blk_frozen BK280.out 5) | ((with_reducible refine gate_dst (N := 11) rfl ?_); refine Kd.R_lit k38 _ 38 ?hg (N := 11) ?hd (xs := ([(⟨a1_0, a1_1, a1_2, a1_3, a1_4, a1_5⟩ : S38)] : List (S38))) (inner := [.int .i16 a1_0, .int .i16 a1_1, .int .i16 a1_2, .int .i16 a1_3, .int .i16 a1_4, .int .i8 a1_5]) (ok := fun _ => True) (okp := fun _ => True) ?hr ?hp (fun _ hk => hk) trivial (Below.refl _ _) (Nat.le_refl _) (by simp) ?_; (case hd => rfl); (case hg => rfl); (case hr => first | (go_simp; done) | (go_simp; rfl)); (case hp => exact (Reps.c6 (show Kd.M k38 _ _ _ (⟨a1_0, a1_1, a1_2, a1_3, a1_4, a1_5⟩ : S38) [.int .i16 a1_0, .int .i16 a1_1, .int .i16 a1_2, .int .i16 a1_3, .int .i16 a1_4, .int .i8 a1_5] from (k38_mkM _ _ _ (⟨a1_0, a1_1, a1_2, a1_3, a1_4, a1_5⟩ : S38) )) (Reps.none _ _))); intro v282 w11 ho12 hb hg_ hnew_; clear hg_ hnew_; (first | rw [← Ny281.out] at ho12 | (simp only [Int.reduceToNat] at ho12; rw [← Ny281.out] at ho12)); have n0_ := Aside0.mk (Kd.R_lower (Kd.R_newB ho12 (g := gb280) (o := .cells #[.int .i16 a1_0, .int .i16 a1_1, .int .i16 a1_2, .int .i16 a1_3, .int .i16 a1_4, .int .i8 a1_5] 38 (0, 0)) (by (with_reducible repeat (first | refine blk_drewN ?_ _ | refine blk_drew ?_ | refine blk_alloc ?_ _)); exact BK280.out)) (below_size (by repeat (first | (with_reducible first | exact HB.out | apply below_alloc | apply pw_below_drewN | apply below_drew1 | refine below_set ?_ GE280.out) | exact HB.out)))); have n1_ := Aside0.mk (blk_below (g := gb280) (o := .cells #[.int .i16 a1_0, .int .i16 a1_1, .int .i16 a1_2, .int .i16 a1_3, .int .i16 a1_4, .int .i8 a1_5] 38 (0, 0)) (by (with_reducible repeat (first | refine blk_drewN ?_ _ | refine blk_drew ?_ | refine blk_alloc ?_ _)); exact BK280.out) hb); have n2_ := Aside0.mk (below_step (by repeat (first | (with_reducible first | exact HB.out | apply below_alloc | apply pw_below_drewN | apply below_drew1 | refine below_set ?_ GE280.out) | exact HB.out)) hb); clear BK280; clear HB; have HO283 := n0_; have BK280 := n1_; have HB := n2_; clear n0_ n1_ n2_; clear hb ho12; obtain ⟨Ao13, co13, eo13⟩ := Kd.R_slice HO283.out; subst eo13) | ((with_reducible refine gate_callee (f := 51) rfl ?_); refine goesL_ (some 12) rfl rfl Try.func51 (by kernel_rfl) rfl #[.int .i64 a0, .slice Ao13 y281.length co13] rfl (by (try simp only [List.map_toArray, List.map_cons, List.map_nil]); first | done | rfl | (simp only [List.length_drop, List.length_take]; rfl)) ?_; (with_reducible refine (impl_ValidWalkers.calls a0 _ _ y281 t284 _ ?side1 ?side2 A4.out).mono ?_); (case side1 => repeat (first | exact (Kd.R_reads' HO283.out).2.2 | (with_reducible refine Kd.C_alloc ?_ _) | (with_reducible refine Kd.C_drewN ?_ _) | (with_reducible refine Kd.C_drew ?_))); (case side2 => exact (Kd.R_reads' HO283.out).2.1); rintro e w14 ⟨rfl, hb⟩; refine ⟨_, rfl, ?_⟩; have n0_ := Aside0.mk (Kd.R_below (by (with_reducible repeat (first | apply Kd.R_alloc | apply Kd.R_drewN | apply Kd.R_drew)); exact HO283.out) hb); have n1_ := Aside0.mk (blk_below (g := gb280) (o := .cells #[.int .i16 a1_0, .int .i16 a1_1, .int .i16 a1_2, .int .i16 a1_3, .int .i16 a1_4, .int .i8 a1_5] 38 (0, 0)) (by (with_reducible repeat (first | refine blk_drewN ?_ _ | refine blk_drew ?_ | refine blk_alloc ?_ _)); exact BK280.out) hb); have n2_ := Aside0.mk (below_step (by repeat (first | (with_reducible first | exact HB.out | apply below_alloc | apply pw_below_drewN | apply below_drew1 | refine below_set ?_ GE280.out) | exact HB.out)) hb); clear HO283; clear BK280; clear HB; have HO283 := n0_; have BK280 := n1_; have HB := n2_; clear n0_ n1_ n2_; (try clear hb); (try clear hb2); (try clear hk); (try clear hi)) | ((with_reducible refine gate_dst (N := 14) rfl ?_); refine Kd.R_lit (Kd.int .i64) _ 2 ?hg (N := 14) ?hd (xs := ([a2] : List Int)) (inner := [.int .i64 a2]) (ok := fun _ => True) (okp := fun _ => True) ?hr ?hp (fun _ hk => hk) trivial (Below.refl _ _) (Nat.le_refl _) (by simp) ?_; (case hd => rfl); (case hg => rfl); (case hr => first | (go_simp; done) | (go_simp; rfl)); (case hp => exact (Reps.one (show Kd.M (Kd.int .i64) _ _ _ a2 [.int .i64 a2] from rfl) (Reps.none _ _))); intro v286 w15 ho16 hb hg_ hnew_; clear hg_ hnew_; (first | rw [← Ny285.out] at ho16 | (simp only [Int.reduceToNat] at ho16; rw [← Ny285.out] at ho16)); have n0_ := Aside0.mk (Kd.R_below (by (with_reducible repeat (first | apply Kd.R_alloc | apply Kd.R_drewN | apply Kd.R_drew)); exact HO283.out) hb); have n1_ := Aside0.mk (Kd.R_lower ho16 (below_size (by repeat (first | (with_reducible first | exact HB.out | apply below_alloc | apply pw_below_drewN | apply below_drew1 | refine below_set ?_ GE280.out) | exact HB.out)))); have n2_ := Aside0.mk (blk_below (g := gb280) (o := .cells #[.int .i16 a1_0, .int .i16 a1_1, .int .i16 a1_2, .int .i16 a1_3, .int .i16 a1_4, .int .i8 a1_5] 38 (0, 0)) (by (with_reducible repeat (first | refine blk_drewN ?_ _ | refine blk_drew ?_ | refine blk_alloc ?_ _)); exact BK280.out) hb); have n3_ := Aside0.mk (below_step (by repeat (first | (with_reducible first | exact HB.out | apply below_alloc | apply pw_below_drewN | apply below_drew1 | refine below_set ?_ GE280.out) | exact HB.out)) hb); clear HO283; clear BK280; clear HB; have HO283 := n0_; have HO287 := n1_; have BK280 := n2_; have HB := n3_; clear n0_ n1_ n2_ n3_; clear hb ho16; obtain ⟨Ao17, co17, eo17⟩ := Kd.R_slice HO287.out; subst eo17) | ((with_reducible refine gate_callee (f := 79) rfl ?_); refine goesL_ (some 15) rfl rfl Try.func79 (by kernel_rfl) rfl #[.slice Ao17 y285.length co17] rfl (by (try simp only [List.map_toArray, List.map_cons, List.map_nil]); first | done | rfl | (simp only [List.length_drop, List.length_take]; rfl)) ?_; (with_reducible refine (impl_isDay.calls _ _ y285 t288 _ ?side1 ?side2 A5.out).mono ?_); (case side1 => repeat (first | exact (Kd.R_reads' HO287.out).2.2 | (with_reducible refine Kd.C_alloc ?_ _) | (with_reducible refine Kd.C_drewN ?_ _) | (with_reducible refine Kd.C_drew ?_))); (case side2 => exact (Kd.R_reads' HO287.out).2.1); rintro e w18 ⟨rfl, hb⟩; refine ⟨_, rfl, ?_⟩; have n0_ := Aside0.mk (Kd.R_below (by (with_reducible repeat (first | apply Kd.R_alloc | apply Kd.R_drewN | apply Kd.R_drew)); exact HO283.out) hb); have n1_ := Aside0.mk (Kd.R_below (by (with_reducible repeat (first | apply Kd.R_alloc | apply Kd.R_drewN | apply Kd.R_drew)); exact HO287.out) hb); have n2_ := Aside0.mk (blk_below (g := gb280) (o := .cells #[.int .i16 a1_0, .int .i16 a1_1, .int .i16 a1_2, .int .i16 a1_3, .int .i16 a1_4, .int .i8 a1_5] 38 (0, 0)) (by (with_reducible repeat (first | refine blk_drewN ?_ _ | refine blk_drew ?_ | refine blk_alloc ?_ _)); exact BK280.out) hb); have n3_ := Aside0.mk (below_step (by repeat (first | (with_reducible first | exact HB.out | apply below_alloc | apply pw_below_drewN | apply below_drew1 | refine below_set ?_ GE280.out) | exact HB.out)) hb); clear HO283; clear HO287; clear BK280; clear HB; have HO283 := n0_; have HO287 := n1_; have BK280 := n2_; have HB := n3_; clear n0_ n1_ n2_ n3_; (try clear hb); (try clear hb2); (try clear hk); (try clear hi)) | ((with_reducible refine gate_callee (f := 67) rfl ?_); refine goesL_ (some 16) rfl rfl Try.func67 (by kernel_rfl) rfl #[.bool t284, .bool t288] rfl (by (try simp only [List.map_toArray, List.map_cons, List.map_nil]); first | done | rfl | (simp only [List.length_drop, List.length_take]; rfl)) ?_; (with_reducible refine (impl_codeOf.calls t284 t288 t289 _ A6.out).mono ?_); rintro e w' ⟨rfl, ⟨nd, rfl⟩⟩; refine ⟨_, rfl, ?_⟩; have hcz19_0 : w18.cell? ⟨gb280, 0, none⟩ = some (.int .i16 a1_0) := (blk_cell BK280.out 0).trans rfl; have hcz19_1 : w18.cell? ⟨gb280, 1, none⟩ = some (.int .i16 a1_1) := (blk_cell BK280.out 1).trans rfl; have hcz19_2 : w18.cell? ⟨gb280, 2, none⟩ = some (.int .i16 a1_2) := (blk_cell BK280.out 2).trans rfl; have hcz19_3 : w18.cell? ⟨gb280, 3, none⟩ = some (.int .i16 a1_3) := (blk_cell BK280.out 3).trans rfl; have hcz19_4 : w18.cell? ⟨gb280, 4, none⟩ = some (.int .i16 a1_4) := (blk_cell BK280.out 4).trans rfl; have hcz19_5 : w18.cell? ⟨gb280, 5, none⟩ = some (.int .i8 a1_5) := (blk_cell BK280.out 5).trans rfl; have hfz19_0 := blk_frozen BK280.out 0; have hfz19_1 := blk_frozen BK280.out 1; have hfz19_2 := blk_frozen BK280.out 2; have hfz19_3 := blk_frozen BK280.out 3; have hfz19_4 := blk_frozen BK280.out 4; have hfz19_5 := blk_frozen BK280.out 5) | ((with_reducible refine gate_callee (f := 74) rfl ?_); refine goesL_ (some 22) rfl rfl Try.func74 (by kernel_rfl) rfl #[.agg #[.int .i16 a1_0, .int .i16 a1_1, .int .i16 a1_2, .int .i16 a1_3, .int .i16 a1_4, .int .i8 a1_5], .int .i64 a2] rfl (by (try simp only [List.map_toArray, List.map_cons, List.map_nil]); first | done | rfl | (simp only [List.length_drop, List.length_take]; rfl)) ?_; (with_reducible refine (impl_Walker_comes.calls a1_0 a1_1 a1_2 a1_3 a1_4 a1_5 a2 t290 _ A8.out).mono ?_); rintro e w20 ⟨rfl, hb⟩; refine ⟨_, rfl, ?_⟩; have n0_ := Aside0.mk (Kd.R_below (by (with_reducible repeat (first | apply Kd.R_alloc | apply Kd.R_drewN | apply Kd.R_drew)); exact HO283.out) hb); have n1_ := Aside0.mk (Kd.R_below (by (with_reducible repeat (first | apply Kd.R_alloc | apply Kd.R_drewN | apply Kd.R_drew)); exact HO287.out) hb); have n2_ := Aside0.mk (blk_below (g := gb280) (o := .cells #[.int .i16 a1_0, .int .i16 a1_1, .int .i16 a1_2, .int .i16 a1_3, .int .i16 a1_4, .int .i8 a1_5] 38 (0, 0)) (by (with_reducible repeat (first | refine blk_drewN ?_ _ | refine blk_drew ?_ | refine blk_alloc ?_ _)); exact BK280.out) hb); have n3_ := Aside0.mk (below_step (by repeat (first | (with_reducible first | exact HB.out | apply below_alloc | apply pw_below_drewN | apply below_drew1 | refine below_set ?_ GE280.out) | exact HB.out)) hb); clear HO283; clear HO287; clear BK280; clear HB; have HO283 := n0_; have HO287 := n1_; have BK280 := n2_; have HB := n3_; clear n0_ n1_ n2_ n3_; (try clear hb); (try clear hb2); (try clear hk); (try clear hi)))
    go_ret2
    exact ⟨by first | rfl | (simp [errW_none, errW_some] <;> rfl) | (simp [*, errW_none, errW_some] <;> rfl), by repeat (first | (with_reducible first | exact HB.out | apply below_alloc | apply pw_below_drewN | apply below_drew1 | refine below_set ?_ GE280.out) | exact HB.out)⟩
  · rw [if_neg c7] at H
    have c7b0 : (t289 == 0) = false := beq_eq_false_iff_ne.mpr c7
    have c7b1 : (t289 != 0) = true := bne_iff_ne.mpr c7
    simp only [Option.some.injEq, Prod.mk.injEq] at H
    obtain ⟨rfl, rfl⟩ := H
    go_enter Try.func18, Try.ntmps18
    go_wp2_with (first | ((with_reducible refine gate_dst (N := 4) rfl ?_); refine box_event ?hg (N := 4) ?hd (cs := #[.int .i16 a1_0, .int .i16 a1_1, .int .i16 a1_2, .int .i16 a1_3, .int .i16 a1_4, .int .i8 a1_5]) (t := 38) ?hr ?_; (case hd => rfl); (case hg => rfl); (case hr => first | (go_simp; done) | (go_simp; rfl)); intro gb280 hg w21 hbox hb; have n0_ := Aside0.mk (below_step (by repeat (first | (with_reducible first | exact HB.out | apply below_alloc | apply pw_below_drewN | apply below_drew1) | exact HB.out)) hb); have n1_ := Aside0.mk (hbox); have n2_ := Aside0.mk ((by rw [hg]; exact (below_size (by repeat (first | (with_reducible first | exact HB.out | apply below_alloc | apply pw_below_drewN | apply below_drew1) | exact HB.out))) : w.heap.size ≤ gb280)); have n3_ := Aside0.mk ((by rw [hg]; exact (below_size (by repeat (first | (with_reducible first | exact HB.out | apply below_alloc | apply pw_below_drewN | apply below_drew1) | exact HB.out))) : w.heap.size ≤ gb280)); clear HB; have HB := n0_; have BK280 := n1_; have GW280 := n2_; have GE280 := n3_; clear n0_ n1_ n2_ n3_; clear hb hbox hg; have hcz22_0 : w21.cell? ⟨gb280, 0, none⟩ = some (.int .i16 a1_0) := (blk_cell BK280.out 0).trans rfl; have hcz22_1 : w21.cell? ⟨gb280, 1, none⟩ = some (.int .i16 a1_1) := (blk_cell BK280.out 1).trans rfl; have hcz22_2 : w21.cell? ⟨gb280, 2, none⟩ = some (.int .i16 a1_2) := (blk_cell BK280.out 2).trans rfl; have hcz22_3 : w21.cell? ⟨gb280, 3, none⟩ = some (.int .i16 a1_3) := (blk_cell BK280.out 3).trans rfl; have hcz22_4 : w21.cell? ⟨gb280, 4, none⟩ = some (.int .i16 a1_4) := (blk_cell BK280.out 4).trans rfl; have hcz22_5 : w21.cell? ⟨gb280, 5, none⟩ = some (.int .i8 a1_5) := (blk_cell BK280.out 5).trans rfl; have hfz22_0 := blk_frozen BK280.out 0; have hfz22_1 := blk_frozen BK280.out 1; have hfz22_2 := blk_frozen BK280.out 2; have hfz22_3 := blk_frozen BK280.out 3; have hfz22_4 := blk_frozen BK280.out 4; have hfz22_5 := blk_frozen BK280.out 5) | ((with_reducible refine gate_dst (N := 11) rfl ?_); refine Kd.R_lit k38 _ 38 ?hg (N := 11) ?hd (xs := ([(⟨a1_0, a1_1, a1_2, a1_3, a1_4, a1_5⟩ : S38)] : List (S38))) (inner := [.int .i16 a1_0, .int .i16 a1_1, .int .i16 a1_2, .int .i16 a1_3, .int .i16 a1_4, .int .i8 a1_5]) (ok := fun _ => True) (okp := fun _ => True) ?hr ?hp (fun _ hk => hk) trivial (Below.refl _ _) (Nat.le_refl _) (by simp) ?_; (case hd => rfl); (case hg => rfl); (case hr => first | (go_simp; done) | (go_simp; rfl)); (case hp => exact (Reps.c6 (show Kd.M k38 _ _ _ (⟨a1_0, a1_1, a1_2, a1_3, a1_4, a1_5⟩ : S38) [.int .i16 a1_0, .int .i16 a1_1, .int .i16 a1_2, .int .i16 a1_3, .int .i16 a1_4, .int .i8 a1_5] from (k38_mkM _ _ _ (⟨a1_0, a1_1, a1_2, a1_3, a1_4, a1_5⟩ : S38) )) (Reps.none _ _))); intro v282 w23 ho24 hb hg_ hnew_; clear hg_ hnew_; (first | rw [← Ny281.out] at ho24 | (simp only [Int.reduceToNat] at ho24; rw [← Ny281.out] at ho24)); have n0_ := Aside0.mk (Kd.R_lower (Kd.R_newB ho24 (g := gb280) (o := .cells #[.int .i16 a1_0, .int .i16 a1_1, .int .i16 a1_2, .int .i16 a1_3, .int .i16 a1_4, .int .i8 a1_5] 38 (0, 0)) (by (with_reducible repeat (first | refine blk_drewN ?_ _ | refine blk_drew ?_ | refine blk_alloc ?_ _)); exact BK280.out)) (below_size (by repeat (first | (with_reducible first | exact HB.out | apply below_alloc | apply pw_below_drewN | apply below_drew1 | refine below_set ?_ GE280.out) | exact HB.out)))); have n1_ := Aside0.mk (blk_below (g := gb280) (o := .cells #[.int .i16 a1_0, .int .i16 a1_1, .int .i16 a1_2, .int .i16 a1_3, .int .i16 a1_4, .int .i8 a1_5] 38 (0, 0)) (by (with_reducible repeat (first | refine blk_drewN ?_ _ | refine blk_drew ?_ | refine blk_alloc ?_ _)); exact BK280.out) hb); have n2_ := Aside0.mk (below_step (by repeat (first | (with_reducible first | exact HB.out | apply below_alloc | apply pw_below_drewN | apply below_drew1 | refine below_set ?_ GE280.out) | exact HB.out)) hb); clear BK280; clear HB; have HO283 := n0_; have BK280 := n1_; have HB := n2_; clear n0_ n1_ n2_; clear hb ho24; obtain ⟨Ao25, co25, eo25⟩ := Kd.R_slice HO283.out; subst eo25) | ((with_reducible refine gate_callee (f := 51) rfl ?_); refine goesL_ (some 12) rfl rfl Try.func51 (by kernel_rfl) rfl #[.int .i64 a0, .slice Ao25 y281.length co25] rfl (by (try simp only [List.map_toArray, List.map_cons, List.map_nil]); first | done | rfl | (simp only [List.length_drop, List.length_take]; rfl)) ?_; (with_reducible refine (impl_ValidWalkers.calls a0 _ _ y281 t284 _ ?side1 ?side2 A4.out).mono ?_); (case side1 => repeat (first | exact (Kd.R_reads' HO283.out).2.2 | (with_reducible refine Kd.C_alloc ?_ _) | (with_reducible refine Kd.C_drewN ?_ _) | (with_reducible refine Kd.C_drew ?_))); (case side2 => exact (Kd.R_reads' HO283.out).2.1); rintro e w26 ⟨rfl, hb⟩; refine ⟨_, rfl, ?_⟩; have n0_ := Aside0.mk (Kd.R_below (by (with_reducible repeat (first | apply Kd.R_alloc | apply Kd.R_drewN | apply Kd.R_drew)); exact HO283.out) hb); have n1_ := Aside0.mk (blk_below (g := gb280) (o := .cells #[.int .i16 a1_0, .int .i16 a1_1, .int .i16 a1_2, .int .i16 a1_3, .int .i16 a1_4, .int .i8 a1_5] 38 (0, 0)) (by (with_reducible repeat (first | refine blk_drewN ?_ _ | refine blk_drew ?_ | refine blk_alloc ?_ _)); exact BK280.out) hb); have n2_ := Aside0.mk (below_step (by repeat (first | (with_reducible first | exact HB.out | apply below_alloc | apply pw_below_drewN | apply below_drew1 | refine below_set ?_ GE280.out) | exact HB.out)) hb); clear HO283; clear BK280; clear HB; have HO283 := n0_; have BK280 := n1_; have HB := n2_; clear n0_ n1_ n2_; (try clear hb); (try clear hb2); (try clear hk); (try clear hi)) | ((with_reducible refine gate_dst (N := 14) rfl ?_); refine Kd.R_lit (Kd.int .i64) _ 2 ?hg (N := 14) ?hd (xs := ([a2] : List Int)) (inner := [.int .i64 a2]) (ok := fun _ => True) (okp := fun _ => True) ?hr ?hp (fun _ hk => hk) trivial (Below.refl _ _) (Nat.le_refl _) (by simp) ?_; (case hd => rfl); (case hg => rfl); (case hr => first | (go_simp; done) | (go_simp; rfl)); (case hp => exact (Reps.one (show Kd.M (Kd.int .i64) _ _ _ a2 [.int .i64 a2] from rfl) (Reps.none _ _))); intro v286 w27 ho28 hb hg_ hnew_; clear hg_ hnew_; (first | rw [← Ny285.out] at ho28 | (simp only [Int.reduceToNat] at ho28; rw [← Ny285.out] at ho28)); have n0_ := Aside0.mk (Kd.R_below (by (with_reducible repeat (first | apply Kd.R_alloc | apply Kd.R_drewN | apply Kd.R_drew)); exact HO283.out) hb); have n1_ := Aside0.mk (Kd.R_lower ho28 (below_size (by repeat (first | (with_reducible first | exact HB.out | apply below_alloc | apply pw_below_drewN | apply below_drew1 | refine below_set ?_ GE280.out) | exact HB.out)))); have n2_ := Aside0.mk (blk_below (g := gb280) (o := .cells #[.int .i16 a1_0, .int .i16 a1_1, .int .i16 a1_2, .int .i16 a1_3, .int .i16 a1_4, .int .i8 a1_5] 38 (0, 0)) (by (with_reducible repeat (first | refine blk_drewN ?_ _ | refine blk_drew ?_ | refine blk_alloc ?_ _)); exact BK280.out) hb); have n3_ := Aside0.mk (below_step (by repeat (first | (with_reducible first | exact HB.out | apply below_alloc | apply pw_below_drewN | apply below_drew1 | refine below_set ?_ GE280.out) | exact HB.out)) hb); clear HO283; clear BK280; clear HB; have HO283 := n0_; have HO287 := n1_; have BK280 := n2_; have HB := n3_; clear n0_ n1_ n2_ n3_; clear hb ho28; obtain ⟨Ao29, co29, eo29⟩ := Kd.R_slice HO287.out; subst eo29) | ((with_reducible refine gate_callee (f := 79) rfl ?_); refine goesL_ (some 15) rfl rfl Try.func79 (by kernel_rfl) rfl #[.slice Ao29 y285.length co29] rfl (by (try simp only [List.map_toArray, List.map_cons, List.map_nil]); first | done | rfl | (simp only [List.length_drop, List.length_take]; rfl)) ?_; (with_reducible refine (impl_isDay.calls _ _ y285 t288 _ ?side1 ?side2 A5.out).mono ?_); (case side1 => repeat (first | exact (Kd.R_reads' HO287.out).2.2 | (with_reducible refine Kd.C_alloc ?_ _) | (with_reducible refine Kd.C_drewN ?_ _) | (with_reducible refine Kd.C_drew ?_))); (case side2 => exact (Kd.R_reads' HO287.out).2.1); rintro e w30 ⟨rfl, hb⟩; refine ⟨_, rfl, ?_⟩; have n0_ := Aside0.mk (Kd.R_below (by (with_reducible repeat (first | apply Kd.R_alloc | apply Kd.R_drewN | apply Kd.R_drew)); exact HO283.out) hb); have n1_ := Aside0.mk (Kd.R_below (by (with_reducible repeat (first | apply Kd.R_alloc | apply Kd.R_drewN | apply Kd.R_drew)); exact HO287.out) hb); have n2_ := Aside0.mk (blk_below (g := gb280) (o := .cells #[.int .i16 a1_0, .int .i16 a1_1, .int .i16 a1_2, .int .i16 a1_3, .int .i16 a1_4, .int .i8 a1_5] 38 (0, 0)) (by (with_reducible repeat (first | refine blk_drewN ?_ _ | refine blk_drew ?_ | refine blk_alloc ?_ _)); exact BK280.out) hb); have n3_ := Aside0.mk (below_step (by repeat (first | (with_reducible first | exact HB.out | apply below_alloc | apply pw_below_drewN | apply below_drew1 | refine below_set ?_ GE280.out) | exact HB.out)) hb); clear HO283; clear HO287; clear BK280; clear HB; have HO283 := n0_; have HO287 := n1_; have BK280 := n2_; have HB := n3_; clear n0_ n1_ n2_ n3_; (try clear hb); (try clear hb2); (try clear hk); (try clear hi)) | ((with_reducible refine gate_callee (f := 67) rfl ?_); refine goesL_ (some 16) rfl rfl Try.func67 (by kernel_rfl) rfl #[.bool t284, .bool t288] rfl (by (try simp only [List.map_toArray, List.map_cons, List.map_nil]); first | done | rfl | (simp only [List.length_drop, List.length_take]; rfl)) ?_; (with_reducible refine (impl_codeOf.calls t284 t288 t289 _ A6.out).mono ?_); rintro e w' ⟨rfl, ⟨nd, rfl⟩⟩; refine ⟨_, rfl, ?_⟩))
    go_ret2
    exact ⟨by first | rfl | (simp [errW_none, errW_some] <;> rfl) | (simp [*, errW_none, errW_some] <;> rfl), by repeat (first | (with_reducible first | exact HB.out | apply below_alloc | apply pw_below_drewN | apply below_drew1 | refine below_set ?_ GE280.out) | exact HB.out)⟩
end Go.Proofs.Ytmheflciiodhdaa.P
-- Written by wip/tools/mkprint.py of this repo, over the kit's print, out of the translation; Lean checks it.
namespace Go.Proofs.Ytmheflciiodhdaa.P
open Go.RowKit Go.Proofs.YtmheflciiodhdaaW.PrintWords Go.Proofs.YtmheflciiodhdaaW.PrintLast Go.Proofs.YtmheflciiodhdaaW.PrintMore
attribute [local go_sem] max2_int min2_int max_two min_two max_three min_three max_four min_four   -- for this text's walks alone
set_option linter.unusedVariables false
set_option linter.unusedSimpArgs false
/-! ### spec_DayOf: function 16 -/
def spec_DayOf.f (k : Nat) (l0 : List Int) (l1 : List (S38)) (a2 : Int) : Option (List Int × Int) := (spec_l05Day.f a2).bind fun t270 => ((spec_l05Row.f k l0 l1 t270).bind fun t271 => (if t271 = 0 then ((spec_l05Behind.f k l0 l1 a2).bind fun t272 => (some (t272, 0))) else (some ((([] : List Int)), t271))))
theorem spec_DayOf.mono : ∀ a0 a1 a2 k, LeO (spec_DayOf.f k a0 a1 a2) (spec_DayOf.f (k + 1) a0 a1 a2) := by
  intro a0 a1 a2 k
  unfold spec_DayOf.f
  repeat' first
      | (with_reducible exact spec_l05Behind.mono _ _ _ _)
      | (with_reducible exact spec_l05Row.mono _ _ _ _)
      | (with_reducible exact LeO.refl _)
      | (with_reducible exact LeO.none _)
      | (with_reducible refine LeO.ite ?_ ?_)
      | (with_reducible refine LeO.bind ?_ (fun _ => ?_))
      | exact spec_l05Behind.mono _ _ _ _
      | exact spec_l05Row.mono _ _ _ _
      | exact LeO.none _
      | refine LeO.ite ?_ ?_
      | refine LeO.bind ?_ (fun _ => ?_)
set_option maxHeartbeats 8000000 in
set_option maxRecDepth 100000 in
theorem spec_DayOf.calls (k : Nat) (A0 : Option Addr) (c0 : Nat) (l0 : List Int) (A1 : Option Addr) (c1 : Nat) (l1 : List (S38)) (a2 : Int) (r1 : List Int) (r2 : Int) (w : World) (hr0 : Kd.C (Kd.int .u8) w A0 l0.length l0) (hc0 : l0.length ≤ c0) (hr1 : Kd.C k38 w A1 l1.length l1) (hc1 : l1.length ≤ c1) (h : spec_DayOf.f k l0 l1 a2 = some (r1, r2)) :
    Calls Try.prog 16 #[.slice A0 l0.length c0, .slice A1 l1.length c1, .int .i64 a2] w fun e w' => ∃ v0_ : Value, e = .returned (.tuple #[v0_, .int .i64 r2]) ∧ Kd.R (Kd.int .u8) 5 w' w.heap.size (fun _ => True) v0_ r1 ∧ Below w.heap.size w w' := by
  have HR0 := Aside0.mk hr0
  have HC0 := Aside0.mk hc0
  clear hr0 hc0
  have HR1 := Aside0.mk hr1
  have HC1 := Aside0.mk hc1
  clear hr1 hc1
  have HB := Aside0.mk (Below.refl w.heap.size w)
  have H : ((spec_l05Day.f a2).bind fun t270 => ((spec_l05Row.f k l0 l1 t270).bind fun t271 => (if t271 = 0 then ((spec_l05Behind.f k l0 l1 a2).bind fun t272 => (some (t272, 0))) else (some ((([] : List Int)), t271))))) = some (r1, r2) := h
  clear h
  replace H := Option.bind_eq_some_iff.mp H
  obtain ⟨t270, A40, H⟩ := H
  replace H : ((spec_l05Row.f k l0 l1 t270).bind fun t271 => (if t271 = 0 then ((spec_l05Behind.f k l0 l1 a2).bind fun t272 => (some (t272, 0))) else (some ((([] : List Int)), t271)))) = some (r1, r2) := H
  have A4 := Aside0.mk A40
  clear A40
  replace H := Option.bind_eq_some_iff.mp H
  obtain ⟨t271, A50, H⟩ := H
  replace H : (if t271 = 0 then ((spec_l05Behind.f k l0 l1 a2).bind fun t272 => (some (t272, 0))) else (some ((([] : List Int)), t271))) = some (r1, r2) := H
  have A5 := Aside0.mk A50
  clear A50
  by_cases c6 : t271 = 0
  · rw [if_pos c6] at H
    have c6b0 : (t271 == 0) = true := beq_iff_eq.mpr c6
    have c6b1 : (t271 != 0) = false := bne_eq_false_iff_eq.mpr c6
    clear c6
    replace H := Option.bind_eq_some_iff.mp H
    obtain ⟨t272, A70, H⟩ := H
    replace H : (some (t272, 0)) = some (r1, r2) := H
    have A7 := Aside0.mk A70
    clear A70
    simp only [Option.some.injEq, Prod.mk.injEq] at H
    obtain ⟨rfl, rfl⟩ := H
    go_enter Try.func16, Try.ntmps16
    go_wp2_with (first | ((with_reducible refine gate_callee (f := 65) rfl ?_); refine goesL_ (some 12) rfl rfl Try.func65 (by kernel_rfl) rfl #[.int .i64 a2] rfl (by (try simp only [List.map_toArray, List.map_cons, List.map_nil]); first | done | rfl | (simp only [List.length_drop, List.length_take]; rfl)) ?_; (with_reducible refine (spec_l05Day.calls a2 t270 _ A4.out).mono ?_); rintro e w' ⟨rfl, ⟨nd, rfl⟩⟩; refine ⟨_, rfl, ?_⟩) | ((with_reducible refine gate_callee (f := 64) rfl ?_); refine goesL_ (some 13) rfl rfl Try.func64 (by kernel_rfl) rfl #[.slice A0 l0.length c0, .slice A1 l1.length c1, .bool t270] rfl (by (try simp only [List.map_toArray, List.map_cons, List.map_nil]); first | done | rfl | (simp only [List.length_drop, List.length_take]; rfl)) ?_; (with_reducible refine (spec_l05Row.calls k _ _ l0 _ _ l1 t270 t271 _ ?side1 ?side2 ?side3 ?side4 A5.out).mono ?_); (case side1 => repeat (first | exact HR0.out | (with_reducible refine Kd.C_alloc ?_ _) | (with_reducible refine Kd.C_drewN ?_ _) | (with_reducible refine Kd.C_drew ?_))); (case side2 => exact HC0.out); (case side3 => repeat (first | exact HR1.out | (with_reducible refine Kd.C_alloc ?_ _) | (with_reducible refine Kd.C_drewN ?_ _) | (with_reducible refine Kd.C_drew ?_))); (case side4 => exact HC1.out); rintro e w8 ⟨rfl, hb⟩; refine ⟨_, rfl, ?_⟩; have n0_ := Aside0.mk (below_step (by repeat (first | (with_reducible first | exact HB.out | apply below_alloc | apply pw_below_drewN | apply below_drew1) | exact HB.out)) hb); clear HB; have HB := n0_; clear n0_; (try clear hb); (try clear hb2); (try clear hk); (try clear hi)) | ((with_reducible refine gate_callee (f := 78) rfl ?_); refine goesL_ (some 21) rfl rfl Try.func78 (by kernel_rfl) rfl #[.slice A0 l0.length c0, .slice A1 l1.length c1, .int .i64 a2] rfl (by (try simp only [List.map_toArray, List.map_cons, List.map_nil]); first | done | rfl | (simp only [List.length_drop, List.length_take]; rfl)) ?_; (with_reducible refine (spec_l05Behind.calls k _ _ l0 _ _ l1 a2 t272 _ ?side1 ?side2 ?side3 ?side4 A7.out).mono ?_); (case side1 => repeat (first | exact (Kd.C_below HR0.out HB.out) | (with_reducible refine Kd.C_alloc ?_ _) | (with_reducible refine Kd.C_drewN ?_ _) | (with_reducible refine Kd.C_drew ?_))); (case side2 => exact HC0.out); (case side3 => repeat (first | exact (Kd.C_below HR1.out HB.out) | (with_reducible refine Kd.C_alloc ?_ _) | (with_reducible refine Kd.C_drewN ?_ _) | (with_reducible refine Kd.C_drew ?_))); (case side4 => exact HC1.out); rintro e w9 ⟨v273, rfl, ho0, hb⟩; refine ⟨_, rfl, ?_⟩; have n0_ := Aside0.mk (Kd.R_lower ho0 (below_size (by repeat (first | (with_reducible first | exact HB.out | apply below_alloc | apply pw_below_drewN | apply below_drew1) | exact HB.out)))); have n1_ := Aside0.mk (below_step (by repeat (first | (with_reducible first | exact HB.out | apply below_alloc | apply pw_below_drewN | apply below_drew1) | exact HB.out)) hb); clear HB; have HO274 := n0_; have HB := n1_; clear n0_ n1_; (try clear hb); (try clear hb2); (try clear hk); (try clear hi); (try clear ho0)))
    go_ret2
    exact ⟨_, by first | rfl | (simp [errW_none, errW_some] <;> rfl) | (simp [*, errW_none, errW_some] <;> rfl), by (with_reducible repeat (first | apply Kd.R_alloc | apply Kd.R_drewN | apply Kd.R_drew)); exact HO274.out, by repeat (first | (with_reducible first | exact HB.out | apply below_alloc | apply pw_below_drewN | apply below_drew1) | exact HB.out)⟩
  · rw [if_neg c6] at H
    have c6b0 : (t271 == 0) = false := beq_eq_false_iff_ne.mpr c6
    have c6b1 : (t271 != 0) = true := bne_iff_ne.mpr c6
    obtain ⟨y275, hy275⟩ : ∃ y_ : List Int, y_ = (([] : List Int)) := ⟨_, rfl⟩
    replace H : (some (y275, t271)) = some (r1, r2) := by first | (rw [hy275]; with_reducible exact H) | (have H2_ := (Option.bind_some _ _).symm.trans H; rw [hy275]; with_reducible exact H2_) | (have H2_ := (Option.bind_some _ _).symm.trans H; with_reducible exact H2_) | with_reducible exact H | (rw [hy275]; exact H) | exact H
    have Ny275 := Aside0.mk hy275
    clear hy275
    simp only [Option.some.injEq, Prod.mk.injEq] at H
    obtain ⟨rfl, rfl⟩ := H
    go_enter Try.func16, Try.ntmps16
    go_wp2_with (first | ((with_reducible refine gate_callee (f := 65) rfl ?_); refine goesL_ (some 12) rfl rfl Try.func65 (by kernel_rfl) rfl #[.int .i64 a2] rfl (by (try simp only [List.map_toArray, List.map_cons, List.map_nil]); first | done | rfl | (simp only [List.length_drop, List.length_take]; rfl)) ?_; (with_reducible refine (spec_l05Day.calls a2 t270 _ A4.out).mono ?_); rintro e w' ⟨rfl, ⟨nd, rfl⟩⟩; refine ⟨_, rfl, ?_⟩) | ((with_reducible refine gate_callee (f := 64) rfl ?_); refine goesL_ (some 13) rfl rfl Try.func64 (by kernel_rfl) rfl #[.slice A0 l0.length c0, .slice A1 l1.length c1, .bool t270] rfl (by (try simp only [List.map_toArray, List.map_cons, List.map_nil]); first | done | rfl | (simp only [List.length_drop, List.length_take]; rfl)) ?_; (with_reducible refine (spec_l05Row.calls k _ _ l0 _ _ l1 t270 t271 _ ?side1 ?side2 ?side3 ?side4 A5.out).mono ?_); (case side1 => repeat (first | exact HR0.out | (with_reducible refine Kd.C_alloc ?_ _) | (with_reducible refine Kd.C_drewN ?_ _) | (with_reducible refine Kd.C_drew ?_))); (case side2 => exact HC0.out); (case side3 => repeat (first | exact HR1.out | (with_reducible refine Kd.C_alloc ?_ _) | (with_reducible refine Kd.C_drewN ?_ _) | (with_reducible refine Kd.C_drew ?_))); (case side4 => exact HC1.out); rintro e w10 ⟨rfl, hb⟩; refine ⟨_, rfl, ?_⟩; have n0_ := Aside0.mk (below_step (by repeat (first | (with_reducible first | exact HB.out | apply below_alloc | apply pw_below_drewN | apply below_drew1) | exact HB.out)) hb); clear HB; have HB := n0_; clear n0_; (try clear hb); (try clear hb2); (try clear hk); (try clear hi)) | ((with_reducible refine gate_dst (N := 16) rfl ?_); refine Kd.R_lit (Kd.int .u8) _ 5 ?hg (N := 16) ?hd (xs := ([] : List Int)) (inner := []) (ok := fun _ => True) (okp := fun _ => True) ?hr ?hp (fun _ hk => hk) trivial (Below.refl _ _) (Nat.le_refl _) (by simp) ?_; (case hd => rfl); (case hg => rfl); (case hr => first | (go_simp; done) | (go_simp; rfl)); (case hp => exact (Reps.none _ _)); intro v276 w11 ho12 hb hg_ hnew_; clear hg_ hnew_; (first | rw [← Ny275.out] at ho12 | (simp only [Int.reduceToNat] at ho12; rw [← Ny275.out] at ho12)); have n0_ := Aside0.mk (Kd.R_lower ho12 (below_size (by repeat (first | (with_reducible first | exact HB.out | apply below_alloc | apply pw_below_drewN | apply below_drew1) | exact HB.out)))); have n1_ := Aside0.mk (below_step (by repeat (first | (with_reducible first | exact HB.out | apply below_alloc | apply pw_below_drewN | apply below_drew1) | exact HB.out)) hb); clear HB; have HO277 := n0_; have HB := n1_; clear n0_ n1_; clear hb ho12))
    go_ret2
    exact ⟨_, by first | rfl | (simp [errW_none, errW_some] <;> rfl) | (simp [*, errW_none, errW_some] <;> rfl), by (with_reducible repeat (first | apply Kd.R_alloc | apply Kd.R_drewN | apply Kd.R_drew)); exact HO277.out, by repeat (first | (with_reducible first | exact HB.out | apply below_alloc | apply pw_below_drewN | apply below_drew1) | exact HB.out)⟩
end Go.Proofs.Ytmheflciiodhdaa.P
-- Written by wip/tools/mkprint.py of this repo, over the kit's print, out of the translation; Lean checks it.
namespace Go.Proofs.Ytmheflciiodhdaa.P
open Go.RowKit Go.Proofs.YtmheflciiodhdaaW.PrintWords Go.Proofs.YtmheflciiodhdaaW.PrintLast Go.Proofs.YtmheflciiodhdaaW.PrintMore
attribute [local go_sem] max2_int min2_int max_two min_two max_three min_three max_four min_four   -- for this text's walks alone
set_option linter.unusedVariables false
set_option linter.unusedSimpArgs false
/-! ### spec_RowOn: function 12 -/
def spec_RowOn.f (k : Nat) (l0 : List Int) (l1 : List (S38)) (a2 : Int) : Option (List Int × Int) := (spec_l05Day.f a2).bind fun t223 => ((spec_l05Row.f k l0 l1 t223).bind fun t224 => (if t224 = 0 then ((spec_l05Whole.f k l0 l1 a2).bind fun t225 => (some (t225, 0))) else (some ((([] : List Int)), t224))))
theorem spec_RowOn.mono : ∀ a0 a1 a2 k, LeO (spec_RowOn.f k a0 a1 a2) (spec_RowOn.f (k + 1) a0 a1 a2) := by
  intro a0 a1 a2 k
  unfold spec_RowOn.f
  repeat' first
      | (with_reducible exact spec_l05Row.mono _ _ _ _)
      | (with_reducible exact spec_l05Whole.mono _ _ _ _)
      | (with_reducible exact LeO.refl _)
      | (with_reducible exact LeO.none _)
      | (with_reducible refine LeO.ite ?_ ?_)
      | (with_reducible refine LeO.bind ?_ (fun _ => ?_))
      | exact spec_l05Row.mono _ _ _ _
      | exact spec_l05Whole.mono _ _ _ _
      | exact LeO.none _
      | refine LeO.ite ?_ ?_
      | refine LeO.bind ?_ (fun _ => ?_)
set_option maxHeartbeats 8000000 in
set_option maxRecDepth 100000 in
theorem spec_RowOn.calls (k : Nat) (A0 : Option Addr) (c0 : Nat) (l0 : List Int) (A1 : Option Addr) (c1 : Nat) (l1 : List (S38)) (a2 : Int) (r1 : List Int) (r2 : Int) (w : World) (hr0 : Kd.C (Kd.int .u8) w A0 l0.length l0) (hc0 : l0.length ≤ c0) (hr1 : Kd.C k38 w A1 l1.length l1) (hc1 : l1.length ≤ c1) (h : spec_RowOn.f k l0 l1 a2 = some (r1, r2)) :
    Calls Try.prog 12 #[.slice A0 l0.length c0, .slice A1 l1.length c1, .int .i64 a2] w fun e w' => ∃ v0_ : Value, e = .returned (.tuple #[v0_, .int .i64 r2]) ∧ Kd.R (Kd.int .u8) 5 w' w.heap.size (fun _ => True) v0_ r1 ∧ Below w.heap.size w w' := by
  have HR0 := Aside0.mk hr0
  have HC0 := Aside0.mk hc0
  clear hr0 hc0
  have HR1 := Aside0.mk hr1
  have HC1 := Aside0.mk hc1
  clear hr1 hc1
  have HB := Aside0.mk (Below.refl w.heap.size w)
  have H : ((spec_l05Day.f a2).bind fun t223 => ((spec_l05Row.f k l0 l1 t223).bind fun t224 => (if t224 = 0 then ((spec_l05Whole.f k l0 l1 a2).bind fun t225 => (some (t225, 0))) else (some ((([] : List Int)), t224))))) = some (r1, r2) := h
  clear h
  replace H := Option.bind_eq_some_iff.mp H
  obtain ⟨t223, A40, H⟩ := H
  replace H : ((spec_l05Row.f k l0 l1 t223).bind fun t224 => (if t224 = 0 then ((spec_l05Whole.f k l0 l1 a2).bind fun t225 => (some (t225, 0))) else (some ((([] : List Int)), t224)))) = some (r1, r2) := H
  have A4 := Aside0.mk A40
  clear A40
  replace H := Option.bind_eq_some_iff.mp H
  obtain ⟨t224, A50, H⟩ := H
  replace H : (if t224 = 0 then ((spec_l05Whole.f k l0 l1 a2).bind fun t225 => (some (t225, 0))) else (some ((([] : List Int)), t224))) = some (r1, r2) := H
  have A5 := Aside0.mk A50
  clear A50
  by_cases c6 : t224 = 0
  · rw [if_pos c6] at H
    have c6b0 : (t224 == 0) = true := beq_iff_eq.mpr c6
    have c6b1 : (t224 != 0) = false := bne_eq_false_iff_eq.mpr c6
    clear c6
    replace H := Option.bind_eq_some_iff.mp H
    obtain ⟨t225, A70, H⟩ := H
    replace H : (some (t225, 0)) = some (r1, r2) := H
    have A7 := Aside0.mk A70
    clear A70
    simp only [Option.some.injEq, Prod.mk.injEq] at H
    obtain ⟨rfl, rfl⟩ := H
    go_enter Try.func12, Try.ntmps12
    go_wp2_with (first | ((with_reducible refine gate_callee (f := 65) rfl ?_); refine goesL_ (some 12) rfl rfl Try.func65 (by kernel_rfl) rfl #[.int .i64 a2] rfl (by (try simp only [List.map_toArray, List.map_cons, List.map_nil]); first | done | rfl | (simp only [List.length_drop, List.length_take]; rfl)) ?_; (with_reducible refine (spec_l05Day.calls a2 t223 _ A4.out).mono ?_); rintro e w' ⟨rfl, ⟨nd, rfl⟩⟩; refine ⟨_, rfl, ?_⟩) | ((with_reducible refine gate_callee (f := 64) rfl ?_); refine goesL_ (some 13) rfl rfl Try.func64 (by kernel_rfl) rfl #[.slice A0 l0.length c0, .slice A1 l1.length c1, .bool t223] rfl (by (try simp only [List.map_toArray, List.map_cons, List.map_nil]); first | done | rfl | (simp only [List.length_drop, List.length_take]; rfl)) ?_; (with_reducible refine (spec_l05Row.calls k _ _ l0 _ _ l1 t223 t224 _ ?side1 ?side2 ?side3 ?side4 A5.out).mono ?_); (case side1 => repeat (first | exact HR0.out | (with_reducible refine Kd.C_alloc ?_ _) | (with_reducible refine Kd.C_drewN ?_ _) | (with_reducible refine Kd.C_drew ?_))); (case side2 => exact HC0.out); (case side3 => repeat (first | exact HR1.out | (with_reducible refine Kd.C_alloc ?_ _) | (with_reducible refine Kd.C_drewN ?_ _) | (with_reducible refine Kd.C_drew ?_))); (case side4 => exact HC1.out); rintro e w8 ⟨rfl, hb⟩; refine ⟨_, rfl, ?_⟩; have n0_ := Aside0.mk (below_step (by repeat (first | (with_reducible first | exact HB.out | apply below_alloc | apply pw_below_drewN | apply below_drew1) | exact HB.out)) hb); clear HB; have HB := n0_; clear n0_; (try clear hb); (try clear hb2); (try clear hk); (try clear hi)) | ((with_reducible refine gate_callee (f := 66) rfl ?_); refine goesL_ (some 21) rfl rfl Try.func66 (by kernel_rfl) rfl #[.slice A0 l0.length c0, .slice A1 l1.length c1, .int .i64 a2] rfl (by (try simp only [List.map_toArray, List.map_cons, List.map_nil]); first | done | rfl | (simp only [List.length_drop, List.length_take]; rfl)) ?_; (with_reducible refine (spec_l05Whole.calls k _ _ l0 _ _ l1 a2 t225 _ ?side1 ?side2 ?side3 ?side4 A7.out).mono ?_); (case side1 => repeat (first | exact (Kd.C_below HR0.out HB.out) | (with_reducible refine Kd.C_alloc ?_ _) | (with_reducible refine Kd.C_drewN ?_ _) | (with_reducible refine Kd.C_drew ?_))); (case side2 => exact HC0.out); (case side3 => repeat (first | exact (Kd.C_below HR1.out HB.out) | (with_reducible refine Kd.C_alloc ?_ _) | (with_reducible refine Kd.C_drewN ?_ _) | (with_reducible refine Kd.C_drew ?_))); (case side4 => exact HC1.out); rintro e w9 ⟨v226, rfl, ho0, hb⟩; refine ⟨_, rfl, ?_⟩; have n0_ := Aside0.mk (Kd.R_lower ho0 (below_size (by repeat (first | (with_reducible first | exact HB.out | apply below_alloc | apply pw_below_drewN | apply below_drew1) | exact HB.out)))); have n1_ := Aside0.mk (below_step (by repeat (first | (with_reducible first | exact HB.out | apply below_alloc | apply pw_below_drewN | apply below_drew1) | exact HB.out)) hb); clear HB; have HO227 := n0_; have HB := n1_; clear n0_ n1_; (try clear hb); (try clear hb2); (try clear hk); (try clear hi); (try clear ho0)))
    go_ret2
    exact ⟨_, by first | rfl | (simp [errW_none, errW_some] <;> rfl) | (simp [*, errW_none, errW_some] <;> rfl), by (with_reducible repeat (first | apply Kd.R_alloc | apply Kd.R_drewN | apply Kd.R_drew)); exact HO227.out, by repeat (first | (with_reducible first | exact HB.out | apply below_alloc | apply pw_below_drewN | apply below_drew1) | exact HB.out)⟩
  · rw [if_neg c6] at H
    have c6b0 : (t224 == 0) = false := beq_eq_false_iff_ne.mpr c6
    have c6b1 : (t224 != 0) = true := bne_iff_ne.mpr c6
    obtain ⟨y228, hy228⟩ : ∃ y_ : List Int, y_ = (([] : List Int)) := ⟨_, rfl⟩
    replace H : (some (y228, t224)) = some (r1, r2) := by first | (rw [hy228]; with_reducible exact H) | (have H2_ := (Option.bind_some _ _).symm.trans H; rw [hy228]; with_reducible exact H2_) | (have H2_ := (Option.bind_some _ _).symm.trans H; with_reducible exact H2_) | with_reducible exact H | (rw [hy228]; exact H) | exact H
    have Ny228 := Aside0.mk hy228
    clear hy228
    simp only [Option.some.injEq, Prod.mk.injEq] at H
    obtain ⟨rfl, rfl⟩ := H
    go_enter Try.func12, Try.ntmps12
    go_wp2_with (first | ((with_reducible refine gate_callee (f := 65) rfl ?_); refine goesL_ (some 12) rfl rfl Try.func65 (by kernel_rfl) rfl #[.int .i64 a2] rfl (by (try simp only [List.map_toArray, List.map_cons, List.map_nil]); first | done | rfl | (simp only [List.length_drop, List.length_take]; rfl)) ?_; (with_reducible refine (spec_l05Day.calls a2 t223 _ A4.out).mono ?_); rintro e w' ⟨rfl, ⟨nd, rfl⟩⟩; refine ⟨_, rfl, ?_⟩) | ((with_reducible refine gate_callee (f := 64) rfl ?_); refine goesL_ (some 13) rfl rfl Try.func64 (by kernel_rfl) rfl #[.slice A0 l0.length c0, .slice A1 l1.length c1, .bool t223] rfl (by (try simp only [List.map_toArray, List.map_cons, List.map_nil]); first | done | rfl | (simp only [List.length_drop, List.length_take]; rfl)) ?_; (with_reducible refine (spec_l05Row.calls k _ _ l0 _ _ l1 t223 t224 _ ?side1 ?side2 ?side3 ?side4 A5.out).mono ?_); (case side1 => repeat (first | exact HR0.out | (with_reducible refine Kd.C_alloc ?_ _) | (with_reducible refine Kd.C_drewN ?_ _) | (with_reducible refine Kd.C_drew ?_))); (case side2 => exact HC0.out); (case side3 => repeat (first | exact HR1.out | (with_reducible refine Kd.C_alloc ?_ _) | (with_reducible refine Kd.C_drewN ?_ _) | (with_reducible refine Kd.C_drew ?_))); (case side4 => exact HC1.out); rintro e w10 ⟨rfl, hb⟩; refine ⟨_, rfl, ?_⟩; have n0_ := Aside0.mk (below_step (by repeat (first | (with_reducible first | exact HB.out | apply below_alloc | apply pw_below_drewN | apply below_drew1) | exact HB.out)) hb); clear HB; have HB := n0_; clear n0_; (try clear hb); (try clear hb2); (try clear hk); (try clear hi)) | ((with_reducible refine gate_dst (N := 16) rfl ?_); refine Kd.R_lit (Kd.int .u8) _ 5 ?hg (N := 16) ?hd (xs := ([] : List Int)) (inner := []) (ok := fun _ => True) (okp := fun _ => True) ?hr ?hp (fun _ hk => hk) trivial (Below.refl _ _) (Nat.le_refl _) (by simp) ?_; (case hd => rfl); (case hg => rfl); (case hr => first | (go_simp; done) | (go_simp; rfl)); (case hp => exact (Reps.none _ _)); intro v229 w11 ho12 hb hg_ hnew_; clear hg_ hnew_; (first | rw [← Ny228.out] at ho12 | (simp only [Int.reduceToNat] at ho12; rw [← Ny228.out] at ho12)); have n0_ := Aside0.mk (Kd.R_lower ho12 (below_size (by repeat (first | (with_reducible first | exact HB.out | apply below_alloc | apply pw_below_drewN | apply below_drew1) | exact HB.out)))); have n1_ := Aside0.mk (below_step (by repeat (first | (with_reducible first | exact HB.out | apply below_alloc | apply pw_below_drewN | apply below_drew1) | exact HB.out)) hb); clear HB; have HO230 := n0_; have HB := n1_; clear n0_ n1_; clear hb ho12))
    go_ret2
    exact ⟨_, by first | rfl | (simp [errW_none, errW_some] <;> rfl) | (simp [*, errW_none, errW_some] <;> rfl), by (with_reducible repeat (first | apply Kd.R_alloc | apply Kd.R_drewN | apply Kd.R_drew)); exact HO230.out, by repeat (first | (with_reducible first | exact HB.out | apply below_alloc | apply pw_below_drewN | apply below_drew1) | exact HB.out)⟩
end Go.Proofs.Ytmheflciiodhdaa.P
-- Written by wip/tools/mkprint.py of this repo, over the kit's print, out of the translation; Lean checks it.
namespace Go.Proofs.Ytmheflciiodhdaa.P
open Go.RowKit Go.Proofs.YtmheflciiodhdaaW.PrintWords Go.Proofs.YtmheflciiodhdaaW.PrintLast Go.Proofs.YtmheflciiodhdaaW.PrintMore
attribute [local go_sem] max2_int min2_int max_two min_two max_three min_three max_four min_four   -- for this text's walks alone
set_option linter.unusedVariables false
set_option linter.unusedSimpArgs false
/-! ### impl_RowOn: function 40 -/
def impl_RowOn.f (k : Nat) (l0 : List Int) (l1 : List (S38)) (a2 : Int) : Option (List Int × Int) := (impl_rowOk.f l0 l1).bind fun t561 => ((impl_isDay.f (([a2] : List Int))).bind fun t565 => ((impl_codeOf.f t561 t565).bind fun t566 => (if t566 = 0 then ((impl_rowOn.f k l0 l1 a2).bind fun t567 => (some (t567, 0))) else (some (([] : List Int), t566)))))
theorem impl_RowOn.mono : ∀ a0 a1 a2 k, LeO (impl_RowOn.f k a0 a1 a2) (impl_RowOn.f (k + 1) a0 a1 a2) := by
  intro a0 a1 a2 k
  unfold impl_RowOn.f
  repeat' first
      | (with_reducible exact impl_rowOn.mono _ _ _ _)
      | (with_reducible exact LeO.refl _)
      | (with_reducible exact LeO.none _)
      | (with_reducible refine LeO.ite ?_ ?_)
      | (with_reducible refine LeO.bind ?_ (fun _ => ?_))
      | exact impl_rowOn.mono _ _ _ _
      | exact LeO.none _
      | refine LeO.ite ?_ ?_
      | refine LeO.bind ?_ (fun _ => ?_)
set_option maxHeartbeats 8000000 in
set_option maxRecDepth 100000 in
theorem impl_RowOn.calls (k : Nat) (A0 : Option Addr) (c0 : Nat) (l0 : List Int) (A1 : Option Addr) (c1 : Nat) (l1 : List (S38)) (a2 : Int) (r1 : List Int) (r2 : Int) (w : World) (hr0 : Kd.C (Kd.int .u8) w A0 l0.length l0) (hc0 : l0.length ≤ c0) (hr1 : Kd.C k38 w A1 l1.length l1) (hc1 : l1.length ≤ c1) (h : impl_RowOn.f k l0 l1 a2 = some (r1, r2)) :
    Calls Try.prog 40 #[.slice A0 l0.length c0, .slice A1 l1.length c1, .int .i64 a2] w fun e w' => ∃ v0_ : Value, e = .returned (.tuple #[v0_, .int .i64 r2]) ∧ Kd.R (Kd.int .u8) 5 w' w.heap.size (fun _ => True) v0_ r1 ∧ Below w.heap.size w w' := by
  have HR0 := Aside0.mk hr0
  have HC0 := Aside0.mk hc0
  clear hr0 hc0
  have HR1 := Aside0.mk hr1
  have HC1 := Aside0.mk hc1
  clear hr1 hc1
  have HB := Aside0.mk (Below.refl w.heap.size w)
  have H : ((impl_rowOk.f l0 l1).bind fun t561 => ((impl_isDay.f (([a2] : List Int))).bind fun t565 => ((impl_codeOf.f t561 t565).bind fun t566 => (if t566 = 0 then ((impl_rowOn.f k l0 l1 a2).bind fun t567 => (some (t567, 0))) else (some (([] : List Int), t566)))))) = some (r1, r2) := h
  clear h
  replace H := Option.bind_eq_some_iff.mp H
  obtain ⟨t561, A40, H⟩ := H
  replace H : ((impl_isDay.f (([a2] : List Int))).bind fun t565 => ((impl_codeOf.f t561 t565).bind fun t566 => (if t566 = 0 then ((impl_rowOn.f k l0 l1 a2).bind fun t567 => (some (t567, 0))) else (some (([] : List Int), t566))))) = some (r1, r2) := H
  have A4 := Aside0.mk A40
  clear A40
  obtain ⟨y562, hy562⟩ : ∃ y_ : List Int, y_ = (([a2] : List Int)) := ⟨_, rfl⟩
  replace H : ((impl_isDay.f y562).bind fun t565 => ((impl_codeOf.f t561 t565).bind fun t566 => (if t566 = 0 then ((impl_rowOn.f k l0 l1 a2).bind fun t567 => (some (t567, 0))) else (some (([] : List Int), t566))))) = some (r1, r2) := by first | (rw [hy562]; with_reducible exact H) | (have H2_ := (Option.bind_some _ _).symm.trans H; rw [hy562]; with_reducible exact H2_) | (have H2_ := (Option.bind_some _ _).symm.trans H; with_reducible exact H2_) | with_reducible exact H | (rw [hy562]; exact H) | exact H
  have Ny562 := Aside0.mk hy562
  clear hy562
  replace H := Option.bind_eq_some_iff.mp H
  obtain ⟨t565, A50, H⟩ := H
  replace H : ((impl_codeOf.f t561 t565).bind fun t566 => (if t566 = 0 then ((impl_rowOn.f k l0 l1 a2).bind fun t567 => (some (t567, 0))) else (some (([] : List Int), t566)))) = some (r1, r2) := H
  have A5 := Aside0.mk A50
  clear A50
  replace H := Option.bind_eq_some_iff.mp H
  obtain ⟨t566, A60, H⟩ := H
  replace H : (if t566 = 0 then ((impl_rowOn.f k l0 l1 a2).bind fun t567 => (some (t567, 0))) else (some (([] : List Int), t566))) = some (r1, r2) := H
  have A6 := Aside0.mk A60
  clear A60
  by_cases c7 : t566 = 0
  · rw [if_pos c7] at H
    have c7b0 : (t566 == 0) = true := beq_iff_eq.mpr c7
    have c7b1 : (t566 != 0) = false := bne_eq_false_iff_eq.mpr c7
    clear c7
    replace H := Option.bind_eq_some_iff.mp H
    obtain ⟨t567, A80, H⟩ := H
    replace H : (some (t567, 0)) = some (r1, r2) := H
    have A8 := Aside0.mk A80
    clear A80
    simp only [Option.some.injEq, Prod.mk.injEq] at H
    obtain ⟨rfl, rfl⟩ := H
    go_enter Try.func40, Try.ntmps40
    go_wp2_with (first | ((with_reducible refine gate_callee (f := 68) rfl ?_); refine goesL_ (some 11) rfl rfl Try.func68 (by kernel_rfl) rfl #[.slice A0 l0.length c0, .slice A1 l1.length c1] rfl (by (try simp only [List.map_toArray, List.map_cons, List.map_nil]); first | done | rfl | (simp only [List.length_drop, List.length_take]; rfl)) ?_; (with_reducible refine (impl_rowOk.calls _ _ l0 _ _ l1 t561 _ ?side1 ?side2 ?side3 ?side4 A4.out).mono ?_); (case side1 => repeat (first | exact HR0.out | (with_reducible refine Kd.C_alloc ?_ _) | (with_reducible refine Kd.C_drewN ?_ _) | (with_reducible refine Kd.C_drew ?_))); (case side2 => exact HC0.out); (case side3 => repeat (first | exact HR1.out | (with_reducible refine Kd.C_alloc ?_ _) | (with_reducible refine Kd.C_drewN ?_ _) | (with_reducible refine Kd.C_drew ?_))); (case side4 => exact HC1.out); rintro e w9 ⟨rfl, hb⟩; refine ⟨_, rfl, ?_⟩; have n0_ := Aside0.mk (below_step (by repeat (first | (with_reducible first | exact HB.out | apply below_alloc | apply pw_below_drewN | apply below_drew1) | exact HB.out)) hb); clear HB; have HB := n0_; clear n0_; (try clear hb); (try clear hb2); (try clear hk); (try clear hi)) | ((with_reducible refine gate_dst (N := 13) rfl ?_); refine Kd.R_lit (Kd.int .i64) _ 2 ?hg (N := 13) ?hd (xs := ([a2] : List Int)) (inner := [.int .i64 a2]) (ok := fun _ => True) (okp := fun _ => True) ?hr ?hp (fun _ hk => hk) trivial (Below.refl _ _) (Nat.le_refl _) (by simp) ?_; (case hd => rfl); (case hg => rfl); (case hr => first | (go_simp; done) | (go_simp; rfl)); (case hp => exact (Reps.one (show Kd.M (Kd.int .i64) _ _ _ a2 [.int .i64 a2] from rfl) (Reps.none _ _))); intro v563 w10 ho11 hb hg_ hnew_; clear hg_ hnew_; (first | rw [← Ny562.out] at ho11 | (simp only [Int.reduceToNat] at ho11; rw [← Ny562.out] at ho11)); have n0_ := Aside0.mk (Kd.R_lower ho11 (below_size (by repeat (first | (with_reducible first | exact HB.out | apply below_alloc | apply pw_below_drewN | apply below_drew1) | exact HB.out)))); have n1_ := Aside0.mk (below_step (by repeat (first | (with_reducible first | exact HB.out | apply below_alloc | apply pw_below_drewN | apply below_drew1) | exact HB.out)) hb); clear HB; have HO564 := n0_; have HB := n1_; clear n0_ n1_; clear hb ho11; obtain ⟨Ao12, co12, eo12⟩ := Kd.R_slice HO564.out; subst eo12) | ((with_reducible refine gate_callee (f := 79) rfl ?_); refine goesL_ (some 14) rfl rfl Try.func79 (by kernel_rfl) rfl #[.slice Ao12 y562.length co12] rfl (by (try simp only [List.map_toArray, List.map_cons, List.map_nil]); first | done | rfl | (simp only [List.length_drop, List.length_take]; rfl)) ?_; (with_reducible refine (impl_isDay.calls _ _ y562 t565 _ ?side1 ?side2 A5.out).mono ?_); (case side1 => repeat (first | exact (Kd.R_reads' HO564.out).2.2 | (with_reducible refine Kd.C_alloc ?_ _) | (with_reducible refine Kd.C_drewN ?_ _) | (with_reducible refine Kd.C_drew ?_))); (case side2 => exact (Kd.R_reads' HO564.out).2.1); rintro e w13 ⟨rfl, hb⟩; refine ⟨_, rfl, ?_⟩; have n0_ := Aside0.mk (Kd.R_below (by (with_reducible repeat (first | apply Kd.R_alloc | apply Kd.R_drewN | apply Kd.R_drew)); exact HO564.out) hb); have n1_ := Aside0.mk (below_step (by repeat (first | (with_reducible first | exact HB.out | apply below_alloc | apply pw_below_drewN | apply below_drew1) | exact HB.out)) hb); clear HO564; clear HB; have HO564 := n0_; have HB := n1_; clear n0_ n1_; (try clear hb); (try clear hb2); (try clear hk); (try clear hi)) | ((with_reducible refine gate_callee (f := 67) rfl ?_); refine goesL_ (some 15) rfl rfl Try.func67 (by kernel_rfl) rfl #[.bool t561, .bool t565] rfl (by (try simp only [List.map_toArray, List.map_cons, List.map_nil]); first | done | rfl | (simp only [List.length_drop, List.length_take]; rfl)) ?_; (with_reducible refine (impl_codeOf.calls t561 t565 t566 _ A6.out).mono ?_); rintro e w' ⟨rfl, ⟨nd, rfl⟩⟩; refine ⟨_, rfl, ?_⟩) | ((with_reducible refine gate_callee (f := 71) rfl ?_); refine goesL_ (some 22) rfl rfl Try.func71 (by kernel_rfl) rfl #[.slice A0 l0.length c0, .slice A1 l1.length c1, .int .i64 a2] rfl (by (try simp only [List.map_toArray, List.map_cons, List.map_nil]); first | done | rfl | (simp only [List.length_drop, List.length_take]; rfl)) ?_; (with_reducible refine (impl_rowOn.calls k _ _ l0 _ _ l1 a2 t567 _ ?side1 ?side2 ?side3 ?side4 A8.out).mono ?_); (case side1 => repeat (first | exact (Kd.C_below HR0.out (by repeat (first | (with_reducible first | exact HB.out | apply below_alloc | apply pw_below_drewN | apply below_drew1) | exact HB.out))) | (with_reducible refine Kd.C_alloc ?_ _) | (with_reducible refine Kd.C_drewN ?_ _) | (with_reducible refine Kd.C_drew ?_))); (case side2 => exact HC0.out); (case side3 => repeat (first | exact (Kd.C_below HR1.out (by repeat (first | (with_reducible first | exact HB.out | apply below_alloc | apply pw_below_drewN | apply below_drew1) | exact HB.out))) | (with_reducible refine Kd.C_alloc ?_ _) | (with_reducible refine Kd.C_drewN ?_ _) | (with_reducible refine Kd.C_drew ?_))); (case side4 => exact HC1.out); rintro e w14 ⟨v568, rfl, ho0, hb⟩; refine ⟨_, rfl, ?_⟩; have n0_ := Aside0.mk (Kd.R_below (by (with_reducible repeat (first | apply Kd.R_alloc | apply Kd.R_drewN | apply Kd.R_drew)); exact HO564.out) hb); have n1_ := Aside0.mk (Kd.R_lower ho0 (below_size (by repeat (first | (with_reducible first | exact HB.out | apply below_alloc | apply pw_below_drewN | apply below_drew1) | exact HB.out)))); have n2_ := Aside0.mk (below_step (by repeat (first | (with_reducible first | exact HB.out | apply below_alloc | apply pw_below_drewN | apply below_drew1) | exact HB.out)) hb); clear HO564; clear HB; have HO564 := n0_; have HO569 := n1_; have HB := n2_; clear n0_ n1_ n2_; (try clear hb); (try clear hb2); (try clear hk); (try clear hi); (try clear ho0)))
    go_ret2
    exact ⟨_, by first | rfl | (simp [errW_none, errW_some] <;> rfl) | (simp [*, errW_none, errW_some] <;> rfl), by (with_reducible repeat (first | apply Kd.R_alloc | apply Kd.R_drewN | apply Kd.R_drew)); exact HO569.out, by repeat (first | (with_reducible first | exact HB.out | apply below_alloc | apply pw_below_drewN | apply below_drew1) | exact HB.out)⟩
  · rw [if_neg c7] at H
    have c7b0 : (t566 == 0) = false := beq_eq_false_iff_ne.mpr c7
    have c7b1 : (t566 != 0) = true := bne_iff_ne.mpr c7
    simp only [Option.some.injEq, Prod.mk.injEq] at H
    obtain ⟨rfl, rfl⟩ := H
    go_enter Try.func40, Try.ntmps40
    go_wp2_with (first | ((with_reducible refine gate_callee (f := 68) rfl ?_); refine goesL_ (some 11) rfl rfl Try.func68 (by kernel_rfl) rfl #[.slice A0 l0.length c0, .slice A1 l1.length c1] rfl (by (try simp only [List.map_toArray, List.map_cons, List.map_nil]); first | done | rfl | (simp only [List.length_drop, List.length_take]; rfl)) ?_; (with_reducible refine (impl_rowOk.calls _ _ l0 _ _ l1 t561 _ ?side1 ?side2 ?side3 ?side4 A4.out).mono ?_); (case side1 => repeat (first | exact HR0.out | (with_reducible refine Kd.C_alloc ?_ _) | (with_reducible refine Kd.C_drewN ?_ _) | (with_reducible refine Kd.C_drew ?_))); (case side2 => exact HC0.out); (case side3 => repeat (first | exact HR1.out | (with_reducible refine Kd.C_alloc ?_ _) | (with_reducible refine Kd.C_drewN ?_ _) | (with_reducible refine Kd.C_drew ?_))); (case side4 => exact HC1.out); rintro e w15 ⟨rfl, hb⟩; refine ⟨_, rfl, ?_⟩; have n0_ := Aside0.mk (below_step (by repeat (first | (with_reducible first | exact HB.out | apply below_alloc | apply pw_below_drewN | apply below_drew1) | exact HB.out)) hb); clear HB; have HB := n0_; clear n0_; (try clear hb); (try clear hb2); (try clear hk); (try clear hi)) | ((with_reducible refine gate_dst (N := 13) rfl ?_); refine Kd.R_lit (Kd.int .i64) _ 2 ?hg (N := 13) ?hd (xs := ([a2] : List Int)) (inner := [.int .i64 a2]) (ok := fun _ => True) (okp := fun _ => True) ?hr ?hp (fun _ hk => hk) trivial (Below.refl _ _) (Nat.le_refl _) (by simp) ?_; (case hd => rfl); (case hg => rfl); (case hr => first | (go_simp; done) | (go_simp; rfl)); (case hp => exact (Reps.one (show Kd.M (Kd.int .i64) _ _ _ a2 [.int .i64 a2] from rfl) (Reps.none _ _))); intro v563 w16 ho17 hb hg_ hnew_; clear hg_ hnew_; (first | rw [← Ny562.out] at ho17 | (simp only [Int.reduceToNat] at ho17; rw [← Ny562.out] at ho17)); have n0_ := Aside0.mk (Kd.R_lower ho17 (below_size (by repeat (first | (with_reducible first | exact HB.out | apply below_alloc | apply pw_below_drewN | apply below_drew1) | exact HB.out)))); have n1_ := Aside0.mk (below_step (by repeat (first | (with_reducible first | exact HB.out | apply below_alloc | apply pw_below_drewN | apply below_drew1) | exact HB.out)) hb); clear HB; have HO564 := n0_; have HB := n1_; clear n0_ n1_; clear hb ho17; obtain ⟨Ao18, co18, eo18⟩ := Kd.R_slice HO564.out; subst eo18) | ((with_reducible refine gate_callee (f := 79) rfl ?_); refine goesL_ (some 14) rfl rfl Try.func79 (by kernel_rfl) rfl #[.slice Ao18 y562.length co18] rfl (by (try simp only [List.map_toArray, List.map_cons, List.map_nil]); first | done | rfl | (simp only [List.length_drop, List.length_take]; rfl)) ?_; (with_reducible refine (impl_isDay.calls _ _ y562 t565 _ ?side1 ?side2 A5.out).mono ?_); (case side1 => repeat (first | exact (Kd.R_reads' HO564.out).2.2 | (with_reducible refine Kd.C_alloc ?_ _) | (with_reducible refine Kd.C_drewN ?_ _) | (with_reducible refine Kd.C_drew ?_))); (case side2 => exact (Kd.R_reads' HO564.out).2.1); rintro e w19 ⟨rfl, hb⟩; refine ⟨_, rfl, ?_⟩; have n0_ := Aside0.mk (Kd.R_below (by (with_reducible repeat (first | apply Kd.R_alloc | apply Kd.R_drewN | apply Kd.R_drew)); exact HO564.out) hb); have n1_ := Aside0.mk (below_step (by repeat (first | (with_reducible first | exact HB.out | apply below_alloc | apply pw_below_drewN | apply below_drew1) | exact HB.out)) hb); clear HO564; clear HB; have HO564 := n0_; have HB := n1_; clear n0_ n1_; (try clear hb); (try clear hb2); (try clear hk); (try clear hi)) | ((with_reducible refine gate_callee (f := 67) rfl ?_); refine goesL_ (some 15) rfl rfl Try.func67 (by kernel_rfl) rfl #[.bool t561, .bool t565] rfl (by (try simp only [List.map_toArray, List.map_cons, List.map_nil]); first | done | rfl | (simp only [List.length_drop, List.length_take]; rfl)) ?_; (with_reducible refine (impl_codeOf.calls t561 t565 t566 _ A6.out).mono ?_); rintro e w' ⟨rfl, ⟨nd, rfl⟩⟩; refine ⟨_, rfl, ?_⟩))
    go_ret2
    exact ⟨_, by first | rfl | (simp [errW_none, errW_some] <;> rfl) | (simp [*, errW_none, errW_some] <;> rfl), by first | exact Kd.R_nil _ _ _ _ _ | exact Kd.N_nil _ _ _ _ _ | exact Kd.V_nil _ _ _ _ _ | exact Kd.Q_nil _ _ _ _ _ | exact Kd.S_nil _ _ _ _ _, by repeat (first | (with_reducible first | exact HB.out | apply below_alloc | apply pw_below_drewN | apply below_drew1) | exact HB.out)⟩
end Go.Proofs.Ytmheflciiodhdaa.P
/- What is drawn is valid; rows on days by both; walks on days. -/
namespace Go.Proofs.Ytmheflciiodhdaa.P
open Go.RowKit Go.Proofs.YtmheflciiodhdaaW.PrintWords Go.Proofs.YtmheflciiodhdaaW.PrintLast Go.Proofs.YtmheflciiodhdaaW.PrintMore
set_option linter.unusedVariables false
/-- A source's bytes. -/
structure SrcOk (c : List Int) : Prop where
  hb : ∀ y ∈ c, 0 ≤ y ∧ y ≤ 255
  hl : c.length ≤ 140737488351232
theorem u64_bd (e : Int) : 0 ≤ IntKind.u64.wrap e ∧ IntKind.u64.wrap e ≤ 18446744073709551615 := by
  simp [IntKind.wrap, IntKind.signed, IntKind.bits]
  omega
theorem and255 (e : Int) (h0 : 0 ≤ e) (h1 : e ≤ 18446744073709551615) : 0 ≤ Go.bits .and .u64 e 255 ∧ Go.bits .and .u64 e 255 ≤ 255 := by
  have h := bits_and_u64_nat e.toNat 255 (by omega) (by omega)
  rw [Int.toNat_of_nonneg h0] at h
  have h2 : e.toNat &&& 255 ≤ 255 := Nat.and_le_right
  rw [show ((255 : Nat) : Int) = 255 from rfl] at h
  rw [h]
  omega
theorem rd_bd {c : List Int} {lo hi : Int} (h : ∀ y ∈ c, lo ≤ y ∧ y ≤ hi) {i : Int} (h0 : 0 ≤ i) (h1 : i < c.length) : lo ≤ rd c i ∧ rd c i ≤ hi := by
  obtain ⟨n, rfl⟩ : ∃ n : Nat, i = n := ⟨i.toNat, by omega⟩
  rw [rd_lt (by omega)]
  exact h _ (List.getElem_mem _)
theorem next_ok {c : List Int} (hc : SrcOk c) {a : Int} (s : Int) (h0 : 0 ≤ a) (h1 : a ≤ 1000000000000000) : ∃ x s', spec_l00Src_next.f c a s = some (x, a + 1, s') ∧ 0 ≤ x ∧ x ≤ 255 := by
  have hl := hc.hl
  have key : ∀ e : Int, 0 ≤ wrap64 (Go.bits .and .u64 (IntKind.u64.wrap e / 1099511627776) 255) ∧ wrap64 (Go.bits .and .u64 (IntKind.u64.wrap e / 1099511627776) 255) ≤ 255 := fun e => by
    have b := u64_bd e
    have := and255 (IntKind.u64.wrap e / 1099511627776) (by omega) (by omega)
    rw [w64 (by omega) (by omega)]
    exact this
  unfold spec_l00Src_next.f
  rw [w64 (x := a + 1) (by omega) (by omega)]
  by_cases h : a < (c.length : Int)
  · have hb := rd_bd hc.hb h0 h
    rw [if_pos h, if_pos h0, if_pos (by omega)]
    exact ⟨_, _, rfl, by rw [w64 (by omega) (by omega)]; exact hb.1, by rw [w64 (by omega) (by omega)]; exact hb.2⟩
  · rw [if_neg h, if_neg (by omega)]
    exact ⟨_, _, rfl, key _⟩
theorem pick_ok {c : List Int} (hc : SrcOk c) {a : Int} (s n : Int) (h0 : 0 ≤ a) (h1 : a ≤ 999999999999999) : ∃ x a' s', spec_l00Src_pick.f c a s n = some (x, a', s') ∧ 0 ≤ x ∧ (1 ≤ n → x < n) ∧ (n ≤ 1 → x = 0) ∧ a ≤ a' ∧ a' ≤ a + 2 := by
  unfold spec_l00Src_pick.f
  by_cases hn : n ≤ 1
  · rw [if_pos hn]; exact ⟨0, a, s, rfl, by omega, by omega, by omega, by omega, by omega⟩
  · rw [if_neg hn]
    obtain ⟨x, s', he, hx0, hx1⟩ := next_ok hc s h0 (by omega)
    rw [he, Option.bind_some]
    by_cases h2 : n > 200
    · rw [if_pos h2]
      obtain ⟨y, s'', he2, hy0, hy1⟩ := next_ok hc (a := a + 1) s' (by omega) (by omega)
      simp only
      rw [he2, Option.bind_some, if_neg (by omega)]
      have e1 : wrap64 (wrap64 (x * 256) + y) = x * 256 + y := by rw [w64 (x := x * 256) (by omega) (by omega), w64 (by omega) (by omega)]
      have m0 := Int.emod_nonneg (x * 256 + y) (show n ≠ 0 by omega)
      have m1 := Int.emod_lt_of_pos (x * 256 + y) (show 0 < n by omega)
      have e2 : Int.tmod (x * 256 + y) n = (x * 256 + y) % n := tmod_nn (by omega)
      refine ⟨_, _, _, rfl, ?_, ?_, ?_, ?_, ?_⟩ <;> simp only [e1, e2] <;> omega
    · rw [if_neg h2, if_neg (by omega)]
      have m0 := Int.emod_nonneg x (show n ≠ 0 by omega)
      have m1 := Int.emod_lt_of_pos x (show 0 < n by omega)
      have e2 : Int.tmod x n = x % n := tmod_nn (by omega)
      refine ⟨_, _, _, rfl, ?_, ?_, ?_, ?_, ?_⟩ <;> simp only [e2] <;> omega
theorem P6Pick_ok {c : List Int} (hc : SrcOk c) (n : Int) : ∃ x, spec_P6Pick.f c n = some x ∧ 0 ≤ x ∧ (1 ≤ n → x < n) := by
  obtain ⟨x, a', s', he, h0, h1, -, -, -⟩ := pick_ok hc (a := 0) 0 n (by omega) (by omega)
  exact ⟨x, by simp only [spec_P6Pick.f, spec_l00From.f, Option.bind_some, he], h0, h1⟩
theorem drawnRow_ev {c : List Int} (hc : SrcOk c) : ∃ r, Ev (fun k => spec_P6Row.f k c) r ∧ 1 ≤ r.length ∧ r.length ≤ 7 ∧ ∀ y ∈ r, 0 ≤ y ∧ y ≤ 7 := by
  have loop : ∀ (n : Nat) (acc : List Int) (p : Bool) (a s : Int), n ≤ 7 → acc.length + n ≤ 7 → 0 ≤ a → a + 2 * n ≤ 1000 → (∀ y ∈ acc, 0 ≤ y ∧ y ≤ 7) → ∃ r a' s', Ev (fun k => spec_l05Drawn.l0 k acc p n c a s) (r, a', s') ∧ r.length = acc.length + n ∧ ∀ y ∈ r, 0 ≤ y ∧ y ≤ 7 := by
    intro n
    induction n with
    | zero => exact fun acc p a s _ _ _ _ h => ⟨acc, a, s, Ev.one (fun k => by simp only [spec_l05Drawn.l0]; rw [if_neg (by omega)]), rfl, h⟩
    | succ n ih =>
      intro acc p a s hn hl h0 h1 hacc
      obtain ⟨x, a', s', he, hx0, hx1, -, ha, ha'⟩ := pick_ok hc s 8 h0 (by omega)
      have hx := hx1 (by omega)
      cases p with
      | true =>
        obtain ⟨r, a2, s2, hev, hrl, hr⟩ := ih (acc ++ [0]) true a' s' (by omega) (by simp; omega) (by omega) (by omega) (fun y hy => by
          rcases List.mem_append.mp hy with h | h
          · exact hacc y h
          · simp at h; omega)
        refine ⟨r, a2, s2, Ev.step (fun k => ?_) hev, by simp at hrl; omega, hr⟩
        simp only [spec_l05Drawn.l0]
        rw [if_pos (by omega), he, Option.bind_some, if_pos trivial, if_pos (by omega), w64 (by omega) (by omega), show ((n + 1 : Nat) : Int) - 1 = n by omega]
      | false =>
        obtain ⟨r, a2, s2, hev, hrl, hr⟩ := ih (acc ++ [x % 256]) false a' s' (by omega) (by simp; omega) (by omega) (by omega) (fun y hy => by
          rcases List.mem_append.mp hy with h | h
          · exact hacc y h
          · simp at h; omega)
        refine ⟨r, a2, s2, Ev.step (fun k => ?_) hev, by simp at hrl; omega, hr⟩
        simp only [spec_l05Drawn.l0]
        rw [if_pos (by omega), he, Option.bind_some, if_neg (by simp), if_pos (by omega), w64 (by omega) (by omega), show ((n + 1 : Nat) : Int) - 1 = n by omega]
  obtain ⟨x1, a1, s1, he1, -, -, -, ha1, hb1⟩ := pick_ok hc (a := 0) 0 2 (by omega) (by omega)
  obtain ⟨x2, a2, s2, he2, hx0, hx1, -, ha2, hb2⟩ := pick_ok hc (a := a1) s1 7 (by omega) (by omega)
  have hx := hx1 (by omega)
  obtain ⟨n, hn⟩ : ∃ n : Nat, (1 + x2 : Int) = n := ⟨(1 + x2).toNat, by omega⟩
  obtain ⟨r, a3, s3, hev, hrl, hr⟩ := loop n [] (x1 == 0) a2 s2 (by omega) (by simp; omega) (by omega) (by omega) (by simp)
  refine ⟨r, ?_, by simp at hrl; omega, by simp at hrl; omega, hr⟩
  refine Ev.congr (fun k => ?_) (Ev.bind hev (f := fun _ t => some t.1) (Ev.pure _))
  simp only [spec_P6Row.f, spec_l00From.f, Option.bind_some, spec_l05Drawn.f, spec_l00Src_one.f, he1, he2]
  rw [w64 (by omega) (by omega), hn]
/-- A walker as it is drawn. -/
structure Drn (x : S38) : Prop where
  h0 : 0 ≤ x.f0 ∧ x.f0 ≤ 4
  h1 : 1 ≤ x.f1 ∧ x.f1 ≤ 6
  h4 : 1 ≤ x.f4 ∧ x.f4 ≤ 6
theorem drawnOne_ok {c : List Int} (hc : SrcOk c) {a : Int} (s : Int) {n : Int} (hn : 1 ≤ n) (hn1 : n ≤ 60) (h0 : 0 ≤ a) (h1 : a ≤ 100000) :
    ∃ x : S38, ∃ a' s', spec_l05One.f c a s n = some (x.f0, x.f1, x.f2, x.f3, x.f4, x.f5, a', s') ∧ WOk n x ∧ Drn x ∧ a ≤ a' ∧ a' ≤ a + 12 := by
  obtain ⟨x1, a1, s1, e1, p1, q1, -, u1, v1⟩ := pick_ok hc (a := a) s 5 (by omega) (by omega)
  obtain ⟨x2, a2, s2, e2, p2, q2, -, u2, v2⟩ := pick_ok hc (a := a1) s1 6 (by omega) (by omega)
  obtain ⟨x3, a3, s3, e3, p3, q3, -, u3, v3⟩ := pick_ok hc (a := a2) s2 n (by omega) (by omega)
  obtain ⟨x4, a4, s4, e4, p4, q4, -, u4, v4⟩ := pick_ok hc (a := a3) s3 5 (by omega) (by omega)
  obtain ⟨x5, a5, s5, e5, p5, q5, -, u5, v5⟩ := pick_ok hc (a := a4) s4 6 (by omega) (by omega)
  obtain ⟨x6, a6, s6, e6, p6, q6, -, u6, v6⟩ := pick_ok hc (a := a5) s5 15 (by omega) (by omega)
  replace q1 := q1 (by omega)
  replace q2 := q2 (by omega)
  replace q3 := q3 (by omega)
  replace q4 := q4 (by omega)
  replace q5 := q5 (by omega)
  replace q6 := q6 (by omega)
  have emax : spec_l00Max.f 1 n = some n := by
    unfold spec_l00Max.f
    by_cases h : (1 : Int) > n
    · omega
    · rw [if_neg h]
  refine ⟨⟨x1, 1 + x2, x3, x4, 1 + x5, x6 - 7⟩, a6, s6, ?_, ⟨⟨?_, ?_⟩, ⟨?_, ?_⟩, ⟨?_, ?_⟩, ⟨?_, ?_⟩, ⟨?_, ?_⟩, ⟨?_, ?_⟩⟩, ⟨⟨?_, ?_⟩, ⟨?_, ?_⟩, ⟨?_, ?_⟩⟩, ?_, ?_⟩
  · simp only [spec_l05One.f, e1, e2, emax, e3, e4, e5, e6, Option.bind_some]
    rw [w64 (x := 1 + x2) (by omega) (by omega), w64 (x := 1 + x5) (by omega) (by omega), w64 (x := x6 - 7) (by omega) (by omega), w16 (x := x1) (by omega) (by omega), w16 (x := 1 + x2) (by omega) (by omega), w16 (x := x3) (by omega) (by omega), w16 (x := x4) (by omega) (by omega), w16 (x := 1 + x5) (by omega) (by omega), w8 (x := x6 - 7) (by omega) (by omega)]
  all_goals (try simp only) <;> omega
theorem drawnWalkers_ev {c : List Int} (hc : SrcOk c) {n : Int} (hn : 1 ≤ n) (hn1 : n ≤ 60) : ∃ ws, Ev (fun k => spec_P6Walkers.f k c n) ws ∧ ws.length ≤ 3 ∧ (∀ x ∈ ws, WOk n x) ∧ ∀ x ∈ ws, Drn x := by
  have loop : ∀ (m : Nat) (acc : List S38) (a s : Int), acc.length + m ≤ 3 → 0 ≤ a → a + 12 * m ≤ 1000 → (∀ x ∈ acc, WOk n x) → (∀ x ∈ acc, Drn x) → ∃ ws, Ev (fun k => spec_P6Walkers.l0 k n acc m c a s) ws ∧ ws.length ≤ 3 ∧ (∀ x ∈ ws, WOk n x) ∧ ∀ x ∈ ws, Drn x := by
    intro m
    induction m with
    | zero => exact fun acc a s hl _ _ h h' => ⟨acc, Ev.one (fun k => by simp only [spec_P6Walkers.l0]; rw [if_neg (by omega)]), by omega, h, h'⟩
    | succ m ih =>
      intro acc a s hl h0 h1 hacc hacc'
      obtain ⟨x, a', s', he, hx, hx', ha, ha'⟩ := drawnOne_ok hc s hn hn1 h0 (by omega)
      obtain ⟨ws, hev, h2, h3, h4⟩ := ih (acc ++ [x]) a' s' (by simp; omega) (by omega) (by omega) (fun y hy => by
          rcases List.mem_append.mp hy with h | h
          · exact hacc y h
          · simp at h; rw [h]; exact hx) (fun y hy => by
          rcases List.mem_append.mp hy with h | h
          · exact hacc' y h
          · simp at h; rw [h]; exact hx')
      refine ⟨ws, Ev.step (fun k => ?_) hev, h2, h3, h4⟩
      simp only [spec_P6Walkers.l0]
      rw [if_pos (by omega), he, Option.bind_some, if_pos (by omega), w64 (by omega) (by omega), show ((m + 1 : Nat) : Int) - 1 = m by omega]
  obtain ⟨x, a', s', he, h0, h1, -, ha, hb⟩ := pick_ok hc (a := 0) 0 4 (by omega) (by omega)
  replace h1 := h1 (by omega)
  obtain ⟨m, rfl⟩ : ∃ m : Nat, x = m := ⟨x.toNat, by omega⟩
  obtain ⟨ws, hev, hw⟩ := loop m [] a' s' (by simp; omega) (by omega) (by omega) (by simp) (by simp)
  refine ⟨ws, Ev.congr (fun k => ?_) hev, hw⟩
  simp only [spec_P6Walkers.f, spec_l00From.f, Option.bind_some, he]
/-- A row and walkers that are valid. -/
structure RowOk (r : List Int) (ws : List S38) : Prop where
  hb : 1 ≤ r.length
  hb1 : r.length ≤ 60
  hr : ∀ y ∈ r, 0 ≤ y ∧ y ≤ 7
  hw : ∀ x ∈ ws, WOk r.length x
  h8 : ws.length ≤ 8
theorem validRow_of {r : List Int} (hb : 1 ≤ r.length) (hb1 : r.length ≤ 60) (hr : ∀ y ∈ r, 0 ≤ y ∧ y ≤ 7) : validRow r = true := by
  simp only [validRow, Bool.and_eq_true, Bool.not_eq_true', List.any_eq_false, decide_eq_true_eq]
  refine ⟨inR_iff.mpr ⟨by omega, by omega⟩, fun x hx => ?_⟩
  have := hr x hx
  omega
theorem badW_of {b : Int} {x : S38} (hb : b ≤ 60) (h : WOk b x) : badW b x = false := by
  obtain ⟨h0, h1, h2, h3, h4, h5⟩ := h
  simp only [badW, Bool.or_eq_false_iff, Bool.not_eq_false']
  rw [w64 (x := x.f0) (by omega) (by omega), w64 (x := x.f1) (by omega) (by omega), w64 (x := x.f2) (by omega) (by omega), w64 (x := x.f3) (by omega) (by omega), w64 (x := x.f4) (by omega) (by omega), w64 (x := x.f5) (by omega) (by omega)]
  exact ⟨⟨⟨⟨⟨inR_iff.mpr h0, inR_iff.mpr h1⟩, inR_iff.mpr h2⟩, inR_iff.mpr h3⟩, inR_iff.mpr h4⟩, inR_iff.mpr h5⟩
theorem validWalkers_of {b : Int} {ws : List S38} (hb : 1 ≤ b) (hb1 : b ≤ 60) (hw : ∀ x ∈ ws, WOk b x) (h8 : ws.length ≤ 8) : validWalkers b ws = true := by
  simp only [validWalkers, Bool.and_eq_true, Bool.not_eq_true', List.any_eq_false, decide_eq_true_eq]
  refine ⟨⟨inR_iff.mpr ⟨hb, hb1⟩, by omega⟩, fun x hx => ?_⟩
  rw [badW_of hb1 (hw x hx)]
  simp
theorem RowOk.B {r : List Int} {ws : List S38} (h : RowOk r ws) : rowOkB r ws = true := by
  simp only [rowOkB, Bool.and_eq_true]
  exact ⟨validRow_of h.hb h.hb1 h.hr, validWalkers_of (by have := h.hb; omega) (by have := h.hb1; omega) h.hw h.h8⟩
theorem RowOk.wt {b : Int} {ws : List S38} (hb : b ≤ 60) (h : ∀ x ∈ ws, WOk b x) : ∀ x ∈ ws, WT x := fun x hx => by
  obtain ⟨h0, h1, h2, h3, h4, h5⟩ := h x hx
  exact ⟨by omega, by omega, by omega, by omega, by omega, by omega⟩
theorem codeB_tt : codeB true true = 0 := rfl
theorem l05Day_ok {d : Int} (h0 : 0 ≤ d) (h1 : d ≤ 10000) : spec_l05Day.f d = some true := by
  simp only [spec_l05Day.f, l00In_inR, Option.bind_some]
  rw [inR_iff.mpr ⟨h0, h1⟩]
theorem specRowOn_ok {r : List Int} {ws : List S38} (h : RowOk r ws) {d : Int} (h0 : 0 ≤ d) (h1 : d ≤ 10000) : Ev (fun k => spec_RowOn.f k r ws d) (rowBy (fun x => untilZ x d) ws r, 0) := by
  have hb1 := h.hb1
  have h8 := h.h8
  have hrow := specRow_ev r ws true (by omega) (by omega)
  rw [h.B, codeB_tt] at hrow
  refine Ev.congr (fun k => ?_) (Ev.bind hrow (f := fun k t => if t = 0 then (spec_l05Whole.f k r ws d).bind fun t => some (t, (0 : Int)) else some (([] : List Int), t)) ?_)
  · simp only [spec_RowOn.f, l05Day_ok h0 h1, Option.bind_some]
  · simp only [if_true]
    exact Ev.bind (specWhole_ev h.hb h.hb1 h.hr h.hw h.h8 h0 h1) (Ev.pure _)
theorem isDay_ok {d : Int} (h0 : 0 ≤ d) (h1 : d ≤ 10000) : impl_isDay.f [d] = some true := by
  simp only [impl_isDay.f, impl_allWithin.f, Option.bind_some, List.all_cons, List.all_nil, Bool.and_true]
  rw [inR_iff.mpr ⟨h0, h1⟩]
theorem specDayOf_ok {r : List Int} {ws : List S38} (h : RowOk r ws) {d : Int} (h0 : 0 ≤ d) (h1 : d ≤ 10000) : Ev (fun k => spec_DayOf.f k r ws d) (rowBy (fun x => onZ x d) ws r, 0) := by
  have hb1 := h.hb1
  have h8 := h.h8
  have hrow := specRow_ev r ws true (by omega) (by omega)
  rw [h.B, codeB_tt] at hrow
  refine Ev.congr (fun k => ?_) (Ev.bind hrow (f := fun k t => if t = 0 then (spec_l05Behind.f k r ws d).bind fun t => some (t, (0 : Int)) else some (([] : List Int), t)) ?_)
  · simp only [spec_DayOf.f, l05Day_ok h0 h1, Option.bind_some]
  · simp only [if_true]
    exact Ev.bind (specBehind_ev h.hb h.hb1 h.hr h.hw h.h8 h0 h1) (Ev.pure _)
theorem until_neg {x : S38} {b : Int} (hx : WOk b x) : untilZ x (-1) = 0 := by
  have := hx.h0
  simp only [untilZ]
  rw [if_pos (by omega)]
theorem untilI_eq {b : Int} {x : S38} (hx : WOk b x) {d : Int} (h0 : -1 ≤ d) (h1 : d ≤ 10000) : impl_Walker_until.f x.f0 x.f1 x.f2 x.f3 x.f4 x.f5 d = some (untilZ x d) := by
  by_cases h : d < 0
  · obtain rfl : d = -1 := by omega
    have := hx.h0
    unfold impl_Walker_until.f
    rw [until_neg hx, w64 (x := x.f0) (by omega) (by omega), if_pos (by omega)]
  · have := untilO_eq hx (d := d) (by omega) h1
    exact this
theorem untilZ_bd' {b : Int} {x : S38} (hx : WOk b x) {d : Int} (h0 : -1 ≤ d) (h1 : d ≤ 10000) : 0 ≤ untilZ x d ∧ untilZ x d ≤ 10001 := by
  by_cases h : d < 0
  · obtain rfl : d = -1 := by omega
    rw [until_neg hx]; omega
  · exact untilZ_bd hx (by omega) h1
theorem betweenO_eq {b : Int} {x : S38} (hx : WOk b x) {a d : Int} (h0 : 0 ≤ a) (h1 : d ≤ 10000) (ha : a ≤ 10001) (hd : 0 ≤ d) : betweenO x a d = some (untilZ x d - untilZ x (a - 1)) := by
  have b1 := untilZ_bd' hx (d := d) (by omega) h1
  have b2 := untilZ_bd' hx (d := a - 1) (by omega) (by omega)
  unfold betweenO impl_Walker_between.f
  rw [w64 (x := a - 1) (by omega) (by omega), untilI_eq hx (by omega) h1, untilI_eq hx (by omega) (by omega)]
  simp only [Option.bind_some]
  rw [w64 (by omega) (by omega)]
theorem implDayOf_ok {r : List Int} {ws : List S38} (h : RowOk r ws) {d : Int} (h0 : 0 ≤ d) (h1 : d ≤ 10000) : Ev (fun k => impl_DayOf.f k r ws d) (rowBy (fun x => onZ x d) ws r, 0) := by
  have hu : ∀ x ∈ ws, betweenO x d d = some (onZ x d) := fun x hx => by
    rw [betweenO_eq (h.hw x hx) h0 h1 (by omega) h0]
    have := until_succ (h.hw x hx) (d - 1)
    rw [show d - 1 + 1 = d by omega] at this
    congr 1; omega
  have ht : ∀ x ∈ ws, betweenT x d d = onZ x d := fun x hx => by unfold betweenT; rw [hu x hx]; rfl
  have key := walked_ev h.hb h.hb1 (fun y hy => by have := h.hr y hy; omega) (fun x => betweenT x d d) ws h.h8 h.hw (fun x hx => by
    simp only [ht x hx, onZ]; split <;> omega)
  rw [rowBy_cong (fun x => betweenT x d d) (fun x => onZ x d) ws r ht] at key
  refine Ev.congr (fun k => ?_) (Ev.bind key (f := fun _ r => some (r, (0 : Int))) (Ev.pure _))
  unfold impl_DayOf.f
  rw [h.B, inR_iff.mpr ⟨h0, h1⟩, codeB_tt, if_pos rfl, if_pos (List.all_eq_true.mpr fun x hx => by rw [hu x hx]; rfl)]
theorem implWalksOn_ok {b : Int} (hb : 1 ≤ b) (hb1 : b ≤ 60) {x : S38} (hx : WOk b x) {d : Int} (h0 : 0 ≤ d) (h1 : d ≤ 10000) : impl_WalksOn.f b x.f0 x.f1 x.f2 x.f3 x.f4 x.f5 d = some (onB x d, 0) := by
  have hv : validWalkers b [x] = true := validWalkers_of hb hb1 (by simpa using hx) (by simp)
  simp only [impl_WalksOn.f, impl_ValidWalkers.f, Option.bind_some, isDay_ok h0 h1]
  rw [show (⟨x.f0, x.f1, x.f2, x.f3, x.f4, x.f5⟩ : S38) = x from rfl, hv]
  simp only [impl_codeOf.f, if_true, Option.bind_some, implComes_eq hx h0 h1]
end Go.Proofs.Ytmheflciiodhdaa.P
-- Written by wip/tools/mkprint.py of this repo, over the kit's print, out of the translation; Lean checks it.
namespace Go.Proofs.Ytmheflciiodhdaa.P
open Go.RowKit Go.Proofs.YtmheflciiodhdaaW.PrintWords Go.Proofs.YtmheflciiodhdaaW.PrintLast Go.Proofs.YtmheflciiodhdaaW.PrintMore
attribute [local go_sem] max2_int min2_int max_two min_two max_three min_three max_four min_four   -- for this text's walks alone
set_option linter.unusedVariables false
set_option linter.unusedSimpArgs false
/-! ### spec_l05Upright: function 84 -/
def spec_l05Upright.l0 : Nat → List Int → Int → Option (Bool)
  | 0, _, _ => none
  | k + 1, x0, x3 => if x3 < (x0.length : Int) then (if 0 ≤ x3 then (if (rd x0 x3) = 0 then (spec_l05Upright.l0 k x0 (wrap64 (x3 + 1))) else (some false)) else (none)) else (some true)
def spec_l05Upright.f (k : Nat) (l0 : List Int) : Option (Bool) := spec_l05Upright.l0 k l0 0
theorem spec_l05Upright.mono_l : ∀ k, (∀ y0 y1, LeO (spec_l05Upright.l0 k y0 y1) (spec_l05Upright.l0 (k + 1) y0 y1))
  | 0 => fun _ _ r h => by simp [spec_l05Upright.l0] at h
  | k + 1 => by
    have ih0 := spec_l05Upright.mono_l k
    · intro y0 y1
      unfold spec_l05Upright.l0
      repeat' first
      | (with_reducible exact ih0 _ _)
      | (with_reducible exact LeO.refl _)
      | (with_reducible exact LeO.none _)
      | (with_reducible refine LeO.ite ?_ ?_)
      | (with_reducible refine LeO.bind ?_ (fun _ => ?_))
      | exact ih0 _ _
      | exact LeO.none _
      | refine LeO.ite ?_ ?_
      | refine LeO.bind ?_ (fun _ => ?_)
theorem spec_l05Upright.mono : ∀ a0 k, LeO (spec_l05Upright.f k a0) (spec_l05Upright.f (k + 1) a0) := by
  intro a0 k
  have ih0 := spec_l05Upright.mono_l k
  unfold spec_l05Upright.f
  repeat' first
      | (with_reducible exact ih0 _ _)
      | (with_reducible exact LeO.refl _)
      | (with_reducible exact LeO.none _)
      | (with_reducible refine LeO.ite ?_ ?_)
      | (with_reducible refine LeO.bind ?_ (fun _ => ?_))
      | exact ih0 _ _
      | exact LeO.none _
      | refine LeO.ite ?_ ?_
      | refine LeO.bind ?_ (fun _ => ?_)
set_option maxHeartbeats 8000000 in
set_option maxRecDepth 100000 in
theorem spec_l05Upright.calls (k : Nat) (A0 : Option Addr) (c0 : Nat) (l0 : List Int) (r : Bool) (w : World) (hr0 : Kd.C (Kd.int .u8) w A0 l0.length l0) (hc0 : l0.length ≤ c0) (h : spec_l05Upright.f k l0 = some r) :
    Calls Try.prog 84 #[.slice A0 l0.length c0] w fun e w' => e = .returned (.bool r) ∧ Drawn0 w w' := by
  have HR0 := Aside0.mk hr0
  have HC0 := Aside0.mk hc0
  clear hr0 hc0
  have H : (spec_l05Upright.l0 k l0 0) = some r := h
  clear h
  have H' := Aside0.mk H
  clear H
  go_enter Try.func84, Try.ntmps84
  go_wp2
  go_loopg [3] k (fun kq v3 w' => ∃ (x3_1 : Int), v3 = .int .i64 x3_1 ∧ Aside0 (spec_l05Upright.l0 kq l0 x3_1 = some r) ∧ Aside0 (kq ≤ k) ∧ Drawn0 w w')
  case atStart => exact ⟨(0), (by first | rfl | (simp; done) | (simp [*]; done)), H', ⟨Nat.le_refl _⟩, by repeat (first | exact Drawn0.refl _ | apply Drawn0.step)⟩
  case round =>
    clear H'
    obtain ⟨x3_1, rfl, HA, HK1, ⟨m1, rfl⟩⟩ := hrel
    cases gk with
    | zero => exact absurd HA.out (by simp [spec_l05Upright.l0])
    | succ k1 =>
      have H := HA.out
      clear HA
      simp only [spec_l05Upright.l0] at H
      by_cases c2 : x3_1 < (l0.length : Int)
      · rw [if_pos c2] at H
        have c2b0 : decide (x3_1 < (l0.length : Int)) = true := decide_eq_true c2
        clear c2
        by_cases c3 : 0 ≤ x3_1
        · rw [if_pos c3] at H
          have c3b0 : decide (0 ≤ x3_1) = true := decide_eq_true c3
          clear c3
          by_cases c4 : (rd l0 x3_1) = 0
          · rw [if_pos c4] at H
            have c4b0 : ((rd l0 x3_1) == 0) = true := beq_iff_eq.mpr c4
            have c4b1 : ((rd l0 x3_1) != 0) = false := bne_eq_false_iff_eq.mpr c4
            clear c4
            have H' := Aside0.mk H
            clear H
            have p356 : 0 ≤ (x3_1 : Int) := of_decide_eq_true (by first | (with_reducible assumption) | assumption)
            have q356 : x3_1 < (l0.length : Int) := of_decide_eq_true (by first | (with_reducible assumption) | assumption)
            obtain ⟨ad356, e356, hx356_0⟩ := Kd.at_int HR0.out x3_1 p356 q356
            cases e356
            replace p356 := eq_true p356
            replace q356 := eq_true q356
            go_wp2
            go_roundg k1
            case measure => have := HK1.out; omega
            case rel => exact ⟨(wrap64 (x3_1 + 1)), (by first | rfl | (simp; done) | (simp [*]; done)), H', ⟨by have := HK1.out; omega⟩, by repeat (first | exact Drawn0.refl _ | apply Drawn0.step)⟩
          · rw [if_neg c4] at H
            have c4b0 : ((rd l0 x3_1) == 0) = false := beq_eq_false_iff_ne.mpr c4
            have c4b1 : ((rd l0 x3_1) != 0) = true := bne_iff_ne.mpr c4
            obtain rfl := Option.some.inj H
            have p356 : 0 ≤ (x3_1 : Int) := of_decide_eq_true (by first | (with_reducible assumption) | assumption)
            have q356 : x3_1 < (l0.length : Int) := of_decide_eq_true (by first | (with_reducible assumption) | assumption)
            obtain ⟨ad356, e356, hx356_0⟩ := Kd.at_int HR0.out x3_1 p356 q356
            cases e356
            replace p356 := eq_true p356
            replace q356 := eq_true q356
            go_wp2
            go_ret
            exact ⟨by first | rfl | (simp; done) | (simp [*]; done), by repeat (first | exact Drawn0.refl _ | apply Drawn0.step)⟩
        · rw [if_neg c3] at H
          exact absurd H (by simp)
      · rw [if_neg c2] at H
        have c2b0 : decide (x3_1 < (l0.length : Int)) = false := decide_eq_false c2
        clear c2
        obtain rfl := Option.some.inj H
        go_wp2
        go_ret
        exact ⟨by first | rfl | (simp; done) | (simp [*]; done), by repeat (first | exact Drawn0.refl _ | apply Drawn0.step)⟩
end Go.Proofs.Ytmheflciiodhdaa.P
-- Written by wip/tools/mkprint.py of this repo, over the kit's print, out of the translation; Lean checks it.
namespace Go.Proofs.Ytmheflciiodhdaa.P
open Go.RowKit Go.Proofs.YtmheflciiodhdaaW.PrintWords Go.Proofs.YtmheflciiodhdaaW.PrintLast Go.Proofs.YtmheflciiodhdaaW.PrintMore
attribute [local go_sem] max2_int min2_int max_two min_two max_three min_three max_four min_four   -- for this text's walks alone
set_option linter.unusedVariables false
set_option linter.unusedSimpArgs false
/-! ### spec_UprightDays: function 22 -/
def spec_UprightDays.l0 : Nat → List (S38) → Int → Int → List Int → List Int → Int → Option (List Int × Int)
  | 0, _, _, _, _, _, _ => none
  | k + 1, x1, x2, x3, x10, x12, x13 => if x13 ≤ x3 then (if x13 > x2 then ((spec_l05Behind.f k x12 x1 x13).bind fun t366 => ((spec_l05Upright.f k t366).bind fun t369 => (if t369 = true then (if x10.length < 17592186044416 then (spec_UprightDays.l0 k x1 x2 x3 (x10 ++ [x13]) t366 (wrap64 (x13 + 1))) else (none)) else (spec_UprightDays.l0 k x1 x2 x3 x10 t366 (wrap64 (x13 + 1)))))) else ((spec_l05Upright.f k x12).bind fun t373 => (if t373 = true then (if x10.length < 17592186044416 then (spec_UprightDays.l0 k x1 x2 x3 (x10 ++ [x13]) x12 (wrap64 (x13 + 1))) else (none)) else (spec_UprightDays.l0 k x1 x2 x3 x10 x12 (wrap64 (x13 + 1)))))) else (some (x10, 0))
def spec_UprightDays.f (k : Nat) (l0 : List Int) (l1 : List (S38)) (a2 : Int) (a3 : Int) : Option (List Int × Int) := (some (([] : List Int) : List Int)).bind fun y357 => ((spec_l05From.f a2 a3).bind fun t360 => ((spec_l05Row.f k l0 l1 t360).bind fun t361 => ((spec_l05Span.f t361 a2 a3).bind fun t362 => (if t362 = 0 then ((spec_l05Whole.f k l0 l1 a2).bind fun t363 => (spec_UprightDays.l0 k l1 a2 a3 y357 t363 a2)) else (some (y357, t362))))))
theorem spec_UprightDays.mono_l : ∀ k, (∀ y0 y1 y2 y3 y4 y5, LeO (spec_UprightDays.l0 k y0 y1 y2 y3 y4 y5) (spec_UprightDays.l0 (k + 1) y0 y1 y2 y3 y4 y5))
  | 0 => fun _ _ _ _ _ _ r h => by simp [spec_UprightDays.l0] at h
  | k + 1 => by
    have ih0 := spec_UprightDays.mono_l k
    · intro y0 y1 y2 y3 y4 y5
      unfold spec_UprightDays.l0
      repeat' first
      | (with_reducible exact ih0 _ _ _ _ _ _)
      | (with_reducible exact spec_l05Behind.mono _ _ _ _)
      | (with_reducible exact spec_l05Row.mono _ _ _ _)
      | (with_reducible exact spec_l05Upright.mono _ _)
      | (with_reducible exact spec_l05Whole.mono _ _ _ _)
      | (with_reducible exact LeO.refl _)
      | (with_reducible exact LeO.none _)
      | (with_reducible refine LeO.ite ?_ ?_)
      | (with_reducible refine LeO.bind ?_ (fun _ => ?_))
      | exact ih0 _ _ _ _ _ _
      | exact spec_l05Behind.mono _ _ _ _
      | exact spec_l05Row.mono _ _ _ _
      | exact spec_l05Upright.mono _ _
      | exact spec_l05Whole.mono _ _ _ _
      | exact LeO.none _
      | refine LeO.ite ?_ ?_
      | refine LeO.bind ?_ (fun _ => ?_)
theorem spec_UprightDays.mono : ∀ a0 a1 a2 a3 k, LeO (spec_UprightDays.f k a0 a1 a2 a3) (spec_UprightDays.f (k + 1) a0 a1 a2 a3) := by
  intro a0 a1 a2 a3 k
  have ih0 := spec_UprightDays.mono_l k
  unfold spec_UprightDays.f
  repeat' first
      | (with_reducible exact ih0 _ _ _ _ _ _)
      | (with_reducible exact spec_l05Behind.mono _ _ _ _)
      | (with_reducible exact spec_l05Row.mono _ _ _ _)
      | (with_reducible exact spec_l05Upright.mono _ _)
      | (with_reducible exact spec_l05Whole.mono _ _ _ _)
      | (with_reducible exact LeO.refl _)
      | (with_reducible exact LeO.none _)
      | (with_reducible refine LeO.ite ?_ ?_)
      | (with_reducible refine LeO.bind ?_ (fun _ => ?_))
      | exact ih0 _ _ _ _ _ _
      | exact spec_l05Behind.mono _ _ _ _
      | exact spec_l05Row.mono _ _ _ _
      | exact spec_l05Upright.mono _ _
      | exact spec_l05Whole.mono _ _ _ _
      | exact LeO.none _
      | refine LeO.ite ?_ ?_
      | refine LeO.bind ?_ (fun _ => ?_)
set_option maxHeartbeats 8000000 in
set_option maxRecDepth 100000 in
theorem spec_UprightDays.calls (k : Nat) (A0 : Option Addr) (c0 : Nat) (l0 : List Int) (A1 : Option Addr) (c1 : Nat) (l1 : List (S38)) (a2 : Int) (a3 : Int) (r1 : List Int) (r2 : Int) (w : World) (hr0 : Kd.C (Kd.int .u8) w A0 l0.length l0) (hc0 : l0.length ≤ c0) (hr1 : Kd.C k38 w A1 l1.length l1) (hc1 : l1.length ≤ c1) (h : spec_UprightDays.f k l0 l1 a2 a3 = some (r1, r2)) :
    Calls Try.prog 22 #[.slice A0 l0.length c0, .slice A1 l1.length c1, .int .i64 a2, .int .i64 a3] w fun e w' => ∃ v0_ : Value, e = .returned (.tuple #[v0_, .int .i64 r2]) ∧ Kd.R (Kd.int .i64) 2 w' w.heap.size (fun _ => True) v0_ r1 ∧ Below w.heap.size w w' := by
  have HR0 := Aside0.mk hr0
  have HC0 := Aside0.mk hc0
  clear hr0 hc0
  have HR1 := Aside0.mk hr1
  have HC1 := Aside0.mk hc1
  clear hr1 hc1
  have HB := Aside0.mk (Below.refl w.heap.size w)
  have H : ((some (([] : List Int) : List Int)).bind fun y357 => ((spec_l05From.f a2 a3).bind fun t360 => ((spec_l05Row.f k l0 l1 t360).bind fun t361 => ((spec_l05Span.f t361 a2 a3).bind fun t362 => (if t362 = 0 then ((spec_l05Whole.f k l0 l1 a2).bind fun t363 => (spec_UprightDays.l0 k l1 a2 a3 y357 t363 a2)) else (some (y357, t362))))))) = some (r1, r2) := h
  clear h
  obtain ⟨y357, hy357⟩ : ∃ y_ : List Int, y_ = (([] : List Int)) := ⟨_, rfl⟩
  replace H : ((spec_l05From.f a2 a3).bind fun t360 => ((spec_l05Row.f k l0 l1 t360).bind fun t361 => ((spec_l05Span.f t361 a2 a3).bind fun t362 => (if t362 = 0 then ((spec_l05Whole.f k l0 l1 a2).bind fun t363 => (spec_UprightDays.l0 k l1 a2 a3 y357 t363 a2)) else (some (y357, t362)))))) = some (r1, r2) := by first | (rw [hy357]; with_reducible exact H) | (have H2_ := (Option.bind_some _ _).symm.trans H; rw [hy357]; with_reducible exact H2_) | (have H2_ := (Option.bind_some _ _).symm.trans H; with_reducible exact H2_) | with_reducible exact H | (rw [hy357]; exact H) | exact H
  have Ny357 := Aside0.mk hy357
  clear hy357
  replace H := Option.bind_eq_some_iff.mp H
  obtain ⟨t360, A50, H⟩ := H
  replace H : ((spec_l05Row.f k l0 l1 t360).bind fun t361 => ((spec_l05Span.f t361 a2 a3).bind fun t362 => (if t362 = 0 then ((spec_l05Whole.f k l0 l1 a2).bind fun t363 => (spec_UprightDays.l0 k l1 a2 a3 y357 t363 a2)) else (some (y357, t362))))) = some (r1, r2) := H
  have A5 := Aside0.mk A50
  clear A50
  replace H := Option.bind_eq_some_iff.mp H
  obtain ⟨t361, A60, H⟩ := H
  replace H : ((spec_l05Span.f t361 a2 a3).bind fun t362 => (if t362 = 0 then ((spec_l05Whole.f k l0 l1 a2).bind fun t363 => (spec_UprightDays.l0 k l1 a2 a3 y357 t363 a2)) else (some (y357, t362)))) = some (r1, r2) := H
  have A6 := Aside0.mk A60
  clear A60
  replace H := Option.bind_eq_some_iff.mp H
  obtain ⟨t362, A70, H⟩ := H
  replace H : (if t362 = 0 then ((spec_l05Whole.f k l0 l1 a2).bind fun t363 => (spec_UprightDays.l0 k l1 a2 a3 y357 t363 a2)) else (some (y357, t362))) = some (r1, r2) := H
  have A7 := Aside0.mk A70
  clear A70
  by_cases c8 : t362 = 0
  · rw [if_pos c8] at H
    have c8b0 : (t362 == 0) = true := beq_iff_eq.mpr c8
    have c8b1 : (t362 != 0) = false := bne_eq_false_iff_eq.mpr c8
    clear c8
    replace H := Option.bind_eq_some_iff.mp H
    obtain ⟨t363, A90, H⟩ := H
    replace H : (spec_UprightDays.l0 k l1 a2 a3 y357 t363 a2) = some (r1, r2) := H
    have A9 := Aside0.mk A90
    clear A90
    have H' := Aside0.mk H
    clear H
    go_enter Try.func22, Try.ntmps22
    go_wp2_with (first | ((with_reducible refine gate_dst (N := 14) rfl ?_); refine Kd.R_lit (Kd.int .i64) _ 2 ?hg (N := 14) ?hd (xs := ([] : List Int)) (inner := []) (ok := fun _ => True) (okp := fun _ => True) ?hr ?hp (fun _ hk => hk) trivial (Below.refl _ _) (Nat.le_refl _) (by simp) ?_; (case hd => rfl); (case hg => rfl); (case hr => first | (go_simp; done) | (go_simp; rfl)); (case hp => exact (Reps.none _ _)); intro v358 w10 ho11 hb hg_ hnew_; clear hg_ hnew_; (first | rw [← Ny357.out] at ho11 | (simp only [Int.reduceToNat] at ho11; rw [← Ny357.out] at ho11)); have n0_ := Aside0.mk (Kd.R_lower ho11 (below_size (by repeat (first | (with_reducible first | exact HB.out | apply below_alloc | apply pw_below_drewN | apply below_drew1) | exact HB.out)))); have n1_ := Aside0.mk (below_step (by repeat (first | (with_reducible first | exact HB.out | apply below_alloc | apply pw_below_drewN | apply below_drew1) | exact HB.out)) hb); clear HB; have HO359 := n0_; have HB := n1_; clear n0_ n1_; clear hb ho11) | ((with_reducible refine gate_callee (f := 83) rfl ?_); refine goesL_ (some 19) rfl rfl Try.func83 (by kernel_rfl) rfl #[.int .i64 a2, .int .i64 a3] rfl (by (try simp only [List.map_toArray, List.map_cons, List.map_nil]); first | done | rfl | (simp only [List.length_drop, List.length_take]; rfl)) ?_; (with_reducible refine (spec_l05From.calls a2 a3 t360 _ A5.out).mono ?_); rintro e w' ⟨rfl, ⟨nd, rfl⟩⟩; refine ⟨_, rfl, ?_⟩) | ((with_reducible refine gate_callee (f := 64) rfl ?_); refine goesL_ (some 20) rfl rfl Try.func64 (by kernel_rfl) rfl #[.slice A0 l0.length c0, .slice A1 l1.length c1, .bool t360] rfl (by (try simp only [List.map_toArray, List.map_cons, List.map_nil]); first | done | rfl | (simp only [List.length_drop, List.length_take]; rfl)) ?_; (with_reducible refine (spec_l05Row.calls k _ _ l0 _ _ l1 t360 t361 _ ?side1 ?side2 ?side3 ?side4 A6.out).mono ?_); (case side1 => repeat (first | exact (Kd.C_below HR0.out (by repeat (first | (with_reducible first | exact HB.out | apply below_alloc | apply pw_below_drewN | apply below_drew1) | exact HB.out))) | (with_reducible refine Kd.C_alloc ?_ _) | (with_reducible refine Kd.C_drewN ?_ _) | (with_reducible refine Kd.C_drew ?_))); (case side2 => exact HC0.out); (case side3 => repeat (first | exact (Kd.C_below HR1.out (by repeat (first | (with_reducible first | exact HB.out | apply below_alloc | apply pw_below_drewN | apply below_drew1) | exact HB.out))) | (with_reducible refine Kd.C_alloc ?_ _) | (with_reducible refine Kd.C_drewN ?_ _) | (with_reducible refine Kd.C_drew ?_))); (case side4 => exact HC1.out); rintro e w12 ⟨rfl, hb⟩; refine ⟨_, rfl, ?_⟩; have n0_ := Aside0.mk (Kd.R_below (by (with_reducible repeat (first | apply Kd.R_alloc | apply Kd.R_drewN | apply Kd.R_drew)); exact HO359.out) hb); have n1_ := Aside0.mk (below_step (by repeat (first | (with_reducible first | exact HB.out | apply below_alloc | apply pw_below_drewN | apply below_drew1) | exact HB.out)) hb); clear HO359; clear HB; have HO359 := n0_; have HB := n1_; clear n0_ n1_; (try clear hb); (try clear hb2); (try clear hk); (try clear hi)) | ((with_reducible refine gate_callee (f := 82) rfl ?_); refine goesL_ (some 23) rfl rfl Try.func82 (by kernel_rfl) rfl #[.int .i64 t361, .int .i64 a2, .int .i64 a3] rfl (by (try simp only [List.map_toArray, List.map_cons, List.map_nil]); first | done | rfl | (simp only [List.length_drop, List.length_take]; rfl)) ?_; (with_reducible refine (spec_l05Span.calls t361 a2 a3 t362 _ A7.out).mono ?_); rintro e w' ⟨rfl, ⟨nd, rfl⟩⟩; refine ⟨_, rfl, ?_⟩) | ((with_reducible refine gate_callee (f := 66) rfl ?_); refine goesL_ (some 31) rfl rfl Try.func66 (by kernel_rfl) rfl #[.slice A0 l0.length c0, .slice A1 l1.length c1, .int .i64 a2] rfl (by (try simp only [List.map_toArray, List.map_cons, List.map_nil]); first | done | rfl | (simp only [List.length_drop, List.length_take]; rfl)) ?_; (with_reducible refine (spec_l05Whole.calls k _ _ l0 _ _ l1 a2 t363 _ ?side1 ?side2 ?side3 ?side4 A9.out).mono ?_); (case side1 => repeat (first | exact (Kd.C_below HR0.out (by repeat (first | (with_reducible first | exact HB.out | apply below_alloc | apply pw_below_drewN | apply below_drew1) | exact HB.out))) | (with_reducible refine Kd.C_alloc ?_ _) | (with_reducible refine Kd.C_drewN ?_ _) | (with_reducible refine Kd.C_drew ?_))); (case side2 => exact HC0.out); (case side3 => repeat (first | exact (Kd.C_below HR1.out (by repeat (first | (with_reducible first | exact HB.out | apply below_alloc | apply pw_below_drewN | apply below_drew1) | exact HB.out))) | (with_reducible refine Kd.C_alloc ?_ _) | (with_reducible refine Kd.C_drewN ?_ _) | (with_reducible refine Kd.C_drew ?_))); (case side4 => exact HC1.out); rintro e w13 ⟨v364, rfl, ho0, hb⟩; refine ⟨_, rfl, ?_⟩; have n0_ := Aside0.mk (Kd.R_below (by (with_reducible repeat (first | apply Kd.R_alloc | apply Kd.R_drewN | apply Kd.R_drew)); exact HO359.out) hb); have n1_ := Aside0.mk (Kd.R_lower ho0 (below_size (by repeat (first | (with_reducible first | exact HB.out | apply below_alloc | apply pw_below_drewN | apply below_drew1) | exact HB.out)))); have n2_ := Aside0.mk (below_step (by repeat (first | (with_reducible first | exact HB.out | apply below_alloc | apply pw_below_drewN | apply below_drew1) | exact HB.out)) hb); clear HO359; clear HB; have HO359 := n0_; have HO365 := n1_; have HB := n2_; clear n0_ n1_ n2_; (try clear hb); (try clear hb2); (try clear hk); (try clear hi); (try clear ho0)))
    go_loopg [10, 12, 13] k (fun kq v10 v12 v13 w' => ∃ (x10_1 : List Int) (x12_1 : List Int) (x13_1 : Int), v13 = .int .i64 x13_1 ∧ Aside0 (spec_UprightDays.l0 kq l1 a2 a3 x10_1 x12_1 x13_1 = some (r1, r2)) ∧ Aside0 (kq ≤ k) ∧ Aside0 (Kd.R (Kd.int .i64) 2 w' w.heap.size (fun _ => True) v10 x10_1) ∧ Aside0 (Kd.R (Kd.int .u8) 5 w' w.heap.size (fun _ => True) v12 x12_1) ∧ Aside0 (Below w.heap.size w w'))
    case atStart => exact ⟨(y357), (t363), (a2), (by first | rfl | (simp; done) | (simp [*]; done)), H', ⟨Nat.le_refl _⟩, ⟨by (with_reducible repeat (first | apply Kd.R_alloc | apply Kd.R_drewN | apply Kd.R_drew)); exact HO359.out⟩, ⟨by (with_reducible repeat (first | apply Kd.R_alloc | apply Kd.R_drewN | apply Kd.R_drew)); exact HO365.out⟩, ⟨by repeat (first | (with_reducible first | exact HB.out | apply below_alloc | apply pw_below_drewN | apply below_drew1) | exact HB.out)⟩⟩
    case round =>
      clear H'
      try clear c1
      try clear c2
      try clear p2
      try clear c6
      try clear c8
      try clear c8b0
      try clear c8b1
      obtain ⟨x10_1, x12_1, x13_1, rfl, HA, HK1, HO_10, HO_12, HB⟩ := hrel
      cases gk with
      | zero => exact absurd HA.out (by simp [spec_UprightDays.l0])
      | succ k1 =>
        have H := HA.out
        clear HA
        simp only [spec_UprightDays.l0] at H
        by_cases c14 : x13_1 ≤ a3
        · rw [if_pos c14] at H
          have c14b0 : decide (x13_1 ≤ a3) = true := decide_eq_true c14
          clear c14
          by_cases c15 : x13_1 > a2
          · rw [if_pos c15] at H
            have c15b0 : decide (a2 < x13_1) = true := decide_eq_true c15
            clear c15
            replace H := Option.bind_eq_some_iff.mp H
            obtain ⟨t366, A160, H⟩ := H
            replace H : ((spec_l05Upright.f k1 t366).bind fun t369 => (if t369 = true then (if x10_1.length < 17592186044416 then (spec_UprightDays.l0 k1 l1 a2 a3 (x10_1 ++ [x13_1]) t366 (wrap64 (x13_1 + 1))) else (none)) else (spec_UprightDays.l0 k1 l1 a2 a3 x10_1 t366 (wrap64 (x13_1 + 1))))) = some (r1, r2) := H
            have A16 := Aside0.mk A160
            clear A160
            replace H := Option.bind_eq_some_iff.mp H
            obtain ⟨t369, A170, H⟩ := H
            replace H : (if t369 = true then (if x10_1.length < 17592186044416 then (spec_UprightDays.l0 k1 l1 a2 a3 (x10_1 ++ [x13_1]) t366 (wrap64 (x13_1 + 1))) else (none)) else (spec_UprightDays.l0 k1 l1 a2 a3 x10_1 t366 (wrap64 (x13_1 + 1)))) = some (r1, r2) := H
            have A17 := Aside0.mk A170
            clear A170
            by_cases c18 : t369 = true
            · subst c18
              have H1 : (if x10_1.length < 17592186044416 then (spec_UprightDays.l0 k1 l1 a2 a3 (x10_1 ++ [x13_1]) t366 (wrap64 (x13_1 + 1))) else (none)) = some (r1, r2) := by rw [if_pos rfl] at H; exact H
              clear H
              have H := H1
              clear H1
              by_cases c19 : x10_1.length < 17592186044416
              · rw [if_pos c19] at H
                have LMc19 := Aside0.mk c19
                clear c19
                obtain ⟨y370, hy370⟩ : ∃ y_ : List Int, y_ = (x10_1 ++ [x13_1]) := ⟨_, rfl⟩
                replace H : (spec_UprightDays.l0 k1 l1 a2 a3 y370 t366 (wrap64 (x13_1 + 1))) = some (r1, r2) := by first | (rw [hy370]; with_reducible exact H) | (have H2_ := (Option.bind_some _ _).symm.trans H; rw [hy370]; with_reducible exact H2_) | (have H2_ := (Option.bind_some _ _).symm.trans H; with_reducible exact H2_) | with_reducible exact H | (rw [hy370]; exact H) | exact H
                have Ny370 := Aside0.mk hy370
                clear hy370
                have H' := Aside0.mk H
                clear H
                obtain ⟨Ao20, co20, eo20⟩ := Kd.R_slice HO_12.out
                subst eo20
                go_wp2_with (first | ((with_reducible refine gate_callee (f := 78) rfl ?_); refine goesL_ (some 44) rfl rfl Try.func78 (by kernel_rfl) rfl #[.slice Ao20 x12_1.length co20, .slice A1 l1.length c1, .int .i64 x13_1] rfl (by (try simp only [List.map_toArray, List.map_cons, List.map_nil]); first | done | rfl | (simp only [List.length_drop, List.length_take]; rfl)) ?_; (with_reducible refine (spec_l05Behind.calls k1 _ _ x12_1 _ _ l1 x13_1 t366 _ ?side1 ?side2 ?side3 ?side4 A16.out).mono ?_); (case side1 => repeat (first | exact (Kd.R_reads' HO_12.out).2.2 | (with_reducible refine Kd.C_alloc ?_ _) | (with_reducible refine Kd.C_drewN ?_ _) | (with_reducible refine Kd.C_drew ?_))); (case side2 => exact (Kd.R_reads' HO_12.out).2.1); (case side3 => repeat (first | exact (Kd.C_below HR1.out HB.out) | (with_reducible refine Kd.C_alloc ?_ _) | (with_reducible refine Kd.C_drewN ?_ _) | (with_reducible refine Kd.C_drew ?_))); (case side4 => exact HC1.out); rintro e w21 ⟨v367, rfl, ho0, hb⟩; refine ⟨_, rfl, ?_⟩; have n0_ := Aside0.mk (Kd.R_below (by (with_reducible repeat (first | apply Kd.R_alloc | apply Kd.R_drewN | apply Kd.R_drew)); exact HO_10.out) hb); have n1_ := Aside0.mk (Kd.R_elder' (by (with_reducible repeat (first | apply Kd.R_alloc | apply Kd.R_drewN | apply Kd.R_drew)); exact HO_12.out) (Kd.R_base ho0) hb); have n2_ := Aside0.mk (Kd.R_lower (Kd.R_new' ho0 (Kd.R_lt (by (with_reducible repeat (first | apply Kd.R_alloc | apply Kd.R_drewN | apply Kd.R_drew)); exact HO_12.out))) (below_size (by repeat (first | (with_reducible first | exact HB.out | apply below_alloc | apply pw_below_drewN | apply below_drew1) | exact HB.out)))); have n3_ := Aside0.mk (below_step (by repeat (first | (with_reducible first | exact HB.out | apply below_alloc | apply pw_below_drewN | apply below_drew1) | exact HB.out)) hb); clear HO_10; clear HO_12; clear HB; have HO_10 := n0_; have HO_12 := n1_; have HO368 := n2_; have HB := n3_; clear n0_ n1_ n2_ n3_; (try clear hb); (try clear hb2); (try clear hk); (try clear hi); (try clear ho0); obtain ⟨Ao22, co22, eo22⟩ := Kd.R_slice HO368.out; subst eo22) | ((with_reducible refine gate_callee (f := 84) rfl ?_); refine goesL_ (some 46) rfl rfl Try.func84 (by kernel_rfl) rfl #[.slice Ao22 t366.length co22] rfl (by (try simp only [List.map_toArray, List.map_cons, List.map_nil]); first | done | rfl | (simp only [List.length_drop, List.length_take]; rfl)) ?_; (with_reducible refine (spec_l05Upright.calls k1 _ _ t366 true _ ?side1 ?side2 A17.out).mono ?_); (case side1 => repeat (first | exact (Kd.R_reads' HO368.out).2.2 | (with_reducible refine Kd.C_alloc ?_ _) | (with_reducible refine Kd.C_drewN ?_ _) | (with_reducible refine Kd.C_drew ?_))); (case side2 => exact (Kd.R_reads' HO368.out).2.1); rintro e w' ⟨rfl, ⟨nd, rfl⟩⟩; refine ⟨_, rfl, ?_⟩) | ((with_reducible refine gate_builtin (b := .append) (xs := #[.tmp 47, .tmp 49]) rfl ?_); at_builtin; refine Kd.R_append (Kd.int .i64) (w0 := w) w.heap.size rfl (.tmp 47) (.tmp 49) 47 2 (.int .i64 0) 8 rfl Try.underlying47 info2 rfl (by decide) (by omega) u10 x10_1 x13_1 [.int .i64 x13_1] (fun _ => True) (fun _ => False) rfl rfl ?aP (fun _ hk => hk.elim) ?aF ?aO ?aB ?aS ?aL ?_; (case aP => exact rfl); (case aB => exact (by repeat (first | (with_reducible first | exact HB.out | apply below_alloc | apply pw_below_drewN | apply below_drew1) | exact HB.out))); (case aF => exact (fun _ _ => trivial)); (case aO => exact (by (with_reducible repeat (first | apply Kd.R_alloc | apply Kd.R_drewN | apply Kd.R_drew)); exact HO_10.out)); (case aS => exact (below_size (by repeat (first | (with_reducible first | exact HB.out | apply below_alloc | apply pw_below_drewN | apply below_drew1) | exact HB.out)))); (case aL => have := LMc19.out; omega); intro v371 w23 ho hb hg hat; rw [← Ny370.out] at ho; have n0_ := Aside0.mk (Kd.R_over' (by (with_reducible repeat (first | apply Kd.R_alloc | apply Kd.R_drewN | apply Kd.R_drew)); exact HO_12.out) (Kd.R_typed (by (with_reducible repeat (first | apply Kd.R_alloc | apply Kd.R_drewN | apply Kd.R_drew)); exact HO_10.out)) (by decide) hg); have n1_ := Aside0.mk (Kd.R_over' (by (with_reducible repeat (first | apply Kd.R_alloc | apply Kd.R_drewN | apply Kd.R_drew)); exact HO368.out) (Kd.R_typed (by (with_reducible repeat (first | apply Kd.R_alloc | apply Kd.R_drewN | apply Kd.R_drew)); exact HO_10.out)) (by decide) hg); have n2_ := Aside0.mk (hb); have n3_ := Aside0.mk (ho); clear HO_12; clear HO368; clear HB; clear HO_10; have HO_12 := n0_; have HO368 := n1_; have HB := n2_; have HO372 := n3_; clear n0_ n1_ n2_ n3_; clear ho hb hg hat))
                go_roundg k1
                case measure => have := HK1.out; omega
                case rel => exact ⟨(y370), (t366), (wrap64 (x13_1 + 1)), (by first | rfl | (simp; done) | (simp [*]; done)), H', ⟨by have := HK1.out; omega⟩, ⟨by (with_reducible repeat (first | apply Kd.R_alloc | apply Kd.R_drewN | apply Kd.R_drew)); exact HO372.out⟩, ⟨by (with_reducible repeat (first | apply Kd.R_alloc | apply Kd.R_drewN | apply Kd.R_drew)); exact Kd.R_mono HO368.out (fun _ hk => trivial)⟩, ⟨by repeat (first | (with_reducible first | exact HB.out | apply below_alloc | apply pw_below_drewN | apply below_drew1) | exact HB.out)⟩⟩
              · rw [if_neg c19] at H
                exact absurd H (by simp)
            · replace c18 := Bool.eq_false_iff.mpr c18
              subst c18
              have H1 : (spec_UprightDays.l0 k1 l1 a2 a3 x10_1 t366 (wrap64 (x13_1 + 1))) = some (r1, r2) := by rw [if_neg (show ¬ (false = true) by decide)] at H; exact H
              clear H
              have H := H1
              clear H1
              have H' := Aside0.mk H
              clear H
              obtain ⟨Ao24, co24, eo24⟩ := Kd.R_slice HO_12.out
              subst eo24
              go_wp2_with (first | ((with_reducible refine gate_callee (f := 78) rfl ?_); refine goesL_ (some 44) rfl rfl Try.func78 (by kernel_rfl) rfl #[.slice Ao24 x12_1.length co24, .slice A1 l1.length c1, .int .i64 x13_1] rfl (by (try simp only [List.map_toArray, List.map_cons, List.map_nil]); first | done | rfl | (simp only [List.length_drop, List.length_take]; rfl)) ?_; (with_reducible refine (spec_l05Behind.calls k1 _ _ x12_1 _ _ l1 x13_1 t366 _ ?side1 ?side2 ?side3 ?side4 A16.out).mono ?_); (case side1 => repeat (first | exact (Kd.R_reads' HO_12.out).2.2 | (with_reducible refine Kd.C_alloc ?_ _) | (with_reducible refine Kd.C_drewN ?_ _) | (with_reducible refine Kd.C_drew ?_))); (case side2 => exact (Kd.R_reads' HO_12.out).2.1); (case side3 => repeat (first | exact (Kd.C_below HR1.out HB.out) | (with_reducible refine Kd.C_alloc ?_ _) | (with_reducible refine Kd.C_drewN ?_ _) | (with_reducible refine Kd.C_drew ?_))); (case side4 => exact HC1.out); rintro e w25 ⟨v367, rfl, ho0, hb⟩; refine ⟨_, rfl, ?_⟩; have n0_ := Aside0.mk (Kd.R_below (by (with_reducible repeat (first | apply Kd.R_alloc | apply Kd.R_drewN | apply Kd.R_drew)); exact HO_10.out) hb); have n1_ := Aside0.mk (Kd.R_elder' (by (with_reducible repeat (first | apply Kd.R_alloc | apply Kd.R_drewN | apply Kd.R_drew)); exact HO_12.out) (Kd.R_base ho0) hb); have n2_ := Aside0.mk (Kd.R_lower (Kd.R_new' ho0 (Kd.R_lt (by (with_reducible repeat (first | apply Kd.R_alloc | apply Kd.R_drewN | apply Kd.R_drew)); exact HO_12.out))) (below_size (by repeat (first | (with_reducible first | exact HB.out | apply below_alloc | apply pw_below_drewN | apply below_drew1) | exact HB.out)))); have n3_ := Aside0.mk (below_step (by repeat (first | (with_reducible first | exact HB.out | apply below_alloc | apply pw_below_drewN | apply below_drew1) | exact HB.out)) hb); clear HO_10; clear HO_12; clear HB; have HO_10 := n0_; have HO_12 := n1_; have HO368 := n2_; have HB := n3_; clear n0_ n1_ n2_ n3_; (try clear hb); (try clear hb2); (try clear hk); (try clear hi); (try clear ho0); obtain ⟨Ao26, co26, eo26⟩ := Kd.R_slice HO368.out; subst eo26) | ((with_reducible refine gate_callee (f := 84) rfl ?_); refine goesL_ (some 46) rfl rfl Try.func84 (by kernel_rfl) rfl #[.slice Ao26 t366.length co26] rfl (by (try simp only [List.map_toArray, List.map_cons, List.map_nil]); first | done | rfl | (simp only [List.length_drop, List.length_take]; rfl)) ?_; (with_reducible refine (spec_l05Upright.calls k1 _ _ t366 false _ ?side1 ?side2 A17.out).mono ?_); (case side1 => repeat (first | exact (Kd.R_reads' HO368.out).2.2 | (with_reducible refine Kd.C_alloc ?_ _) | (with_reducible refine Kd.C_drewN ?_ _) | (with_reducible refine Kd.C_drew ?_))); (case side2 => exact (Kd.R_reads' HO368.out).2.1); rintro e w' ⟨rfl, ⟨nd, rfl⟩⟩; refine ⟨_, rfl, ?_⟩))
              go_roundg k1
              case measure => have := HK1.out; omega
              case rel => exact ⟨(x10_1), (t366), (wrap64 (x13_1 + 1)), (by first | rfl | (simp; done) | (simp [*]; done)), H', ⟨by have := HK1.out; omega⟩, ⟨by (with_reducible repeat (first | apply Kd.R_alloc | apply Kd.R_drewN | apply Kd.R_drew)); exact HO_10.out⟩, ⟨by (with_reducible repeat (first | apply Kd.R_alloc | apply Kd.R_drewN | apply Kd.R_drew)); exact Kd.R_mono HO368.out (fun _ hk => trivial)⟩, ⟨by repeat (first | (with_reducible first | exact HB.out | apply below_alloc | apply pw_below_drewN | apply below_drew1) | exact HB.out)⟩⟩
          · rw [if_neg c15] at H
            have c15b0 : decide (a2 < x13_1) = false := decide_eq_false c15
            clear c15
            replace H := Option.bind_eq_some_iff.mp H
            obtain ⟨t373, A270, H⟩ := H
            replace H : (if t373 = true then (if x10_1.length < 17592186044416 then (spec_UprightDays.l0 k1 l1 a2 a3 (x10_1 ++ [x13_1]) x12_1 (wrap64 (x13_1 + 1))) else (none)) else (spec_UprightDays.l0 k1 l1 a2 a3 x10_1 x12_1 (wrap64 (x13_1 + 1)))) = some (r1, r2) := H
            have A27 := Aside0.mk A270
            clear A270
            by_cases c28 : t373 = true
            · subst c28
              have H1 : (if x10_1.length < 17592186044416 then (spec_UprightDays.l0 k1 l1 a2 a3 (x10_1 ++ [x13_1]) x12_1 (wrap64 (x13_1 + 1))) else (none)) = some (r1, r2) := by rw [if_pos rfl] at H; exact H
              clear H
              have H := H1
              clear H1
              by_cases c29 : x10_1.length < 17592186044416
              · rw [if_pos c29] at H
                have LMc29 := Aside0.mk c29
                clear c29
                obtain ⟨y374, hy374⟩ : ∃ y_ : List Int, y_ = (x10_1 ++ [x13_1]) := ⟨_, rfl⟩
                replace H : (spec_UprightDays.l0 k1 l1 a2 a3 y374 x12_1 (wrap64 (x13_1 + 1))) = some (r1, r2) := by first | (rw [hy374]; with_reducible exact H) | (have H2_ := (Option.bind_some _ _).symm.trans H; rw [hy374]; with_reducible exact H2_) | (have H2_ := (Option.bind_some _ _).symm.trans H; with_reducible exact H2_) | with_reducible exact H | (rw [hy374]; exact H) | exact H
                have Ny374 := Aside0.mk hy374
                clear hy374
                have H' := Aside0.mk H
                clear H
                obtain ⟨Ao30, co30, eo30⟩ := Kd.R_slice HO_12.out
                subst eo30
                go_wp2_with (first | ((with_reducible refine gate_callee (f := 84) rfl ?_); refine goesL_ (some 46) rfl rfl Try.func84 (by kernel_rfl) rfl #[.slice Ao30 x12_1.length co30] rfl (by (try simp only [List.map_toArray, List.map_cons, List.map_nil]); first | done | rfl | (simp only [List.length_drop, List.length_take]; rfl)) ?_; (with_reducible refine (spec_l05Upright.calls k1 _ _ x12_1 true _ ?side1 ?side2 A27.out).mono ?_); (case side1 => repeat (first | exact (Kd.R_reads' HO_12.out).2.2 | (with_reducible refine Kd.C_alloc ?_ _) | (with_reducible refine Kd.C_drewN ?_ _) | (with_reducible refine Kd.C_drew ?_))); (case side2 => exact (Kd.R_reads' HO_12.out).2.1); rintro e w' ⟨rfl, ⟨nd, rfl⟩⟩; refine ⟨_, rfl, ?_⟩) | ((with_reducible refine gate_builtin (b := .append) (xs := #[.tmp 47, .tmp 49]) rfl ?_); at_builtin; refine Kd.R_append (Kd.int .i64) (w0 := w) w.heap.size rfl (.tmp 47) (.tmp 49) 47 2 (.int .i64 0) 8 rfl Try.underlying47 info2 rfl (by decide) (by omega) u10 x10_1 x13_1 [.int .i64 x13_1] (fun _ => True) (fun _ => False) rfl rfl ?aP (fun _ hk => hk.elim) ?aF ?aO ?aB ?aS ?aL ?_; (case aP => exact rfl); (case aB => exact (by repeat (first | (with_reducible first | exact HB.out | apply below_alloc | apply pw_below_drewN | apply below_drew1) | exact HB.out))); (case aF => exact (fun _ _ => trivial)); (case aO => exact (by (with_reducible repeat (first | apply Kd.R_alloc | apply Kd.R_drewN | apply Kd.R_drew)); exact HO_10.out)); (case aS => exact (below_size (by repeat (first | (with_reducible first | exact HB.out | apply below_alloc | apply pw_below_drewN | apply below_drew1) | exact HB.out)))); (case aL => have := LMc29.out; omega); intro v375 w31 ho hb hg hat; rw [← Ny374.out] at ho; have n0_ := Aside0.mk (Kd.R_over' (by (with_reducible repeat (first | apply Kd.R_alloc | apply Kd.R_drewN | apply Kd.R_drew)); exact HO_12.out) (Kd.R_typed (by (with_reducible repeat (first | apply Kd.R_alloc | apply Kd.R_drewN | apply Kd.R_drew)); exact HO_10.out)) (by decide) hg); have n1_ := Aside0.mk (hb); have n2_ := Aside0.mk (ho); clear HO_12; clear HB; clear HO_10; have HO_12 := n0_; have HB := n1_; have HO376 := n2_; clear n0_ n1_ n2_; clear ho hb hg hat))
                go_roundg k1
                case measure => have := HK1.out; omega
                case rel => exact ⟨(y374), (x12_1), (wrap64 (x13_1 + 1)), (by first | rfl | (simp; done) | (simp [*]; done)), H', ⟨by have := HK1.out; omega⟩, ⟨by (with_reducible repeat (first | apply Kd.R_alloc | apply Kd.R_drewN | apply Kd.R_drew)); exact HO376.out⟩, ⟨by (with_reducible repeat (first | apply Kd.R_alloc | apply Kd.R_drewN | apply Kd.R_drew)); exact HO_12.out⟩, ⟨by repeat (first | (with_reducible first | exact HB.out | apply below_alloc | apply pw_below_drewN | apply below_drew1) | exact HB.out)⟩⟩
              · rw [if_neg c29] at H
                exact absurd H (by simp)
            · replace c28 := Bool.eq_false_iff.mpr c28
              subst c28
              have H1 : (spec_UprightDays.l0 k1 l1 a2 a3 x10_1 x12_1 (wrap64 (x13_1 + 1))) = some (r1, r2) := by rw [if_neg (show ¬ (false = true) by decide)] at H; exact H
              clear H
              have H := H1
              clear H1
              have H' := Aside0.mk H
              clear H
              obtain ⟨Ao32, co32, eo32⟩ := Kd.R_slice HO_12.out
              subst eo32
              go_wp2_with (first | ((with_reducible refine gate_callee (f := 84) rfl ?_); refine goesL_ (some 46) rfl rfl Try.func84 (by kernel_rfl) rfl #[.slice Ao32 x12_1.length co32] rfl (by (try simp only [List.map_toArray, List.map_cons, List.map_nil]); first | done | rfl | (simp only [List.length_drop, List.length_take]; rfl)) ?_; (with_reducible refine (spec_l05Upright.calls k1 _ _ x12_1 false _ ?side1 ?side2 A27.out).mono ?_); (case side1 => repeat (first | exact (Kd.R_reads' HO_12.out).2.2 | (with_reducible refine Kd.C_alloc ?_ _) | (with_reducible refine Kd.C_drewN ?_ _) | (with_reducible refine Kd.C_drew ?_))); (case side2 => exact (Kd.R_reads' HO_12.out).2.1); rintro e w' ⟨rfl, ⟨nd, rfl⟩⟩; refine ⟨_, rfl, ?_⟩))
              go_roundg k1
              case measure => have := HK1.out; omega
              case rel => exact ⟨(x10_1), (x12_1), (wrap64 (x13_1 + 1)), (by first | rfl | (simp; done) | (simp [*]; done)), H', ⟨by have := HK1.out; omega⟩, ⟨by (with_reducible repeat (first | apply Kd.R_alloc | apply Kd.R_drewN | apply Kd.R_drew)); exact HO_10.out⟩, ⟨by (with_reducible repeat (first | apply Kd.R_alloc | apply Kd.R_drewN | apply Kd.R_drew)); exact HO_12.out⟩, ⟨by repeat (first | (with_reducible first | exact HB.out | apply below_alloc | apply pw_below_drewN | apply below_drew1) | exact HB.out)⟩⟩
        · rw [if_neg c14] at H
          have c14b0 : decide (x13_1 ≤ a3) = false := decide_eq_false c14
          clear c14
          simp only [Option.some.injEq, Prod.mk.injEq] at H
          obtain ⟨rfl, rfl⟩ := H
          go_wp2
          go_ret2
          exact ⟨_, by first | rfl | (simp [errW_none, errW_some] <;> rfl) | (simp [*, errW_none, errW_some] <;> rfl), by (with_reducible repeat (first | apply Kd.R_alloc | apply Kd.R_drewN | apply Kd.R_drew)); exact HO_10.out, by repeat (first | (with_reducible first | exact HB.out | apply below_alloc | apply pw_below_drewN | apply below_drew1) | exact HB.out)⟩
  · rw [if_neg c8] at H
    have c8b0 : (t362 == 0) = false := beq_eq_false_iff_ne.mpr c8
    have c8b1 : (t362 != 0) = true := bne_iff_ne.mpr c8
    simp only [Option.some.injEq, Prod.mk.injEq] at H
    obtain ⟨rfl, rfl⟩ := H
    go_enter Try.func22, Try.ntmps22
    go_wp2_with (first | ((with_reducible refine gate_dst (N := 14) rfl ?_); refine Kd.R_lit (Kd.int .i64) _ 2 ?hg (N := 14) ?hd (xs := ([] : List Int)) (inner := []) (ok := fun _ => True) (okp := fun _ => True) ?hr ?hp (fun _ hk => hk) trivial (Below.refl _ _) (Nat.le_refl _) (by simp) ?_; (case hd => rfl); (case hg => rfl); (case hr => first | (go_simp; done) | (go_simp; rfl)); (case hp => exact (Reps.none _ _)); intro v358 w33 ho34 hb hg_ hnew_; clear hg_ hnew_; (first | rw [← Ny357.out] at ho34 | (simp only [Int.reduceToNat] at ho34; rw [← Ny357.out] at ho34)); have n0_ := Aside0.mk (Kd.R_lower ho34 (below_size (by repeat (first | (with_reducible first | exact HB.out | apply below_alloc | apply pw_below_drewN | apply below_drew1) | exact HB.out)))); have n1_ := Aside0.mk (below_step (by repeat (first | (with_reducible first | exact HB.out | apply below_alloc | apply pw_below_drewN | apply below_drew1) | exact HB.out)) hb); clear HB; have HO359 := n0_; have HB := n1_; clear n0_ n1_; clear hb ho34) | ((with_reducible refine gate_callee (f := 83) rfl ?_); refine goesL_ (some 19) rfl rfl Try.func83 (by kernel_rfl) rfl #[.int .i64 a2, .int .i64 a3] rfl (by (try simp only [List.map_toArray, List.map_cons, List.map_nil]); first | done | rfl | (simp only [List.length_drop, List.length_take]; rfl)) ?_; (with_reducible refine (spec_l05From.calls a2 a3 t360 _ A5.out).mono ?_); rintro e w' ⟨rfl, ⟨nd, rfl⟩⟩; refine ⟨_, rfl, ?_⟩) | ((with_reducible refine gate_callee (f := 64) rfl ?_); refine goesL_ (some 20) rfl rfl Try.func64 (by kernel_rfl) rfl #[.slice A0 l0.length c0, .slice A1 l1.length c1, .bool t360] rfl (by (try simp only [List.map_toArray, List.map_cons, List.map_nil]); first | done | rfl | (simp only [List.length_drop, List.length_take]; rfl)) ?_; (with_reducible refine (spec_l05Row.calls k _ _ l0 _ _ l1 t360 t361 _ ?side1 ?side2 ?side3 ?side4 A6.out).mono ?_); (case side1 => repeat (first | exact (Kd.C_below HR0.out (by repeat (first | (with_reducible first | exact HB.out | apply below_alloc | apply pw_below_drewN | apply below_drew1) | exact HB.out))) | (with_reducible refine Kd.C_alloc ?_ _) | (with_reducible refine Kd.C_drewN ?_ _) | (with_reducible refine Kd.C_drew ?_))); (case side2 => exact HC0.out); (case side3 => repeat (first | exact (Kd.C_below HR1.out (by repeat (first | (with_reducible first | exact HB.out | apply below_alloc | apply pw_below_drewN | apply below_drew1) | exact HB.out))) | (with_reducible refine Kd.C_alloc ?_ _) | (with_reducible refine Kd.C_drewN ?_ _) | (with_reducible refine Kd.C_drew ?_))); (case side4 => exact HC1.out); rintro e w35 ⟨rfl, hb⟩; refine ⟨_, rfl, ?_⟩; have n0_ := Aside0.mk (Kd.R_below (by (with_reducible repeat (first | apply Kd.R_alloc | apply Kd.R_drewN | apply Kd.R_drew)); exact HO359.out) hb); have n1_ := Aside0.mk (below_step (by repeat (first | (with_reducible first | exact HB.out | apply below_alloc | apply pw_below_drewN | apply below_drew1) | exact HB.out)) hb); clear HO359; clear HB; have HO359 := n0_; have HB := n1_; clear n0_ n1_; (try clear hb); (try clear hb2); (try clear hk); (try clear hi)) | ((with_reducible refine gate_callee (f := 82) rfl ?_); refine goesL_ (some 23) rfl rfl Try.func82 (by kernel_rfl) rfl #[.int .i64 t361, .int .i64 a2, .int .i64 a3] rfl (by (try simp only [List.map_toArray, List.map_cons, List.map_nil]); first | done | rfl | (simp only [List.length_drop, List.length_take]; rfl)) ?_; (with_reducible refine (spec_l05Span.calls t361 a2 a3 t362 _ A7.out).mono ?_); rintro e w' ⟨rfl, ⟨nd, rfl⟩⟩; refine ⟨_, rfl, ?_⟩))
    go_ret2
    exact ⟨_, by first | rfl | (simp [errW_none, errW_some] <;> rfl) | (simp [*, errW_none, errW_some] <;> rfl), by (with_reducible repeat (first | apply Kd.R_alloc | apply Kd.R_drewN | apply Kd.R_drew)); exact HO359.out, by repeat (first | (with_reducible first | exact HB.out | apply below_alloc | apply pw_below_drewN | apply below_drew1) | exact HB.out)⟩
end Go.Proofs.Ytmheflciiodhdaa.P
-- Written by wip/tools/mkprint.py of this repo, over the kit's print, out of the translation; Lean checks it.
namespace Go.Proofs.Ytmheflciiodhdaa.P
open Go.RowKit Go.Proofs.YtmheflciiodhdaaW.PrintWords Go.Proofs.YtmheflciiodhdaaW.PrintLast Go.Proofs.YtmheflciiodhdaaW.PrintMore
attribute [local go_sem] max2_int min2_int max_two min_two max_three min_three max_four min_four   -- for this text's walks alone
set_option linter.unusedVariables false
set_option linter.unusedSimpArgs false
/-! ### impl_UprightDays: given -/
theorem Upright_pred (w : World) : PredI Try.prog 88 #[] .u8 (fun x => x != 0) w := by
  refine ⟨enters_of Try.func88 (by kernel_rfl) rfl, fun W hW x => ?_⟩
  show Calls Try.prog 88 #[.int .u8 x] W _
  go_enter Try.func88, Try.ntmps88
  go_wp2
  go_ret
  exact ⟨rfl, Drawn0.refl _⟩
def notUpright (r : List Int) : Bool := r.any (fun x => x != 0)
def upList (k : Nat) (l0 : List Int) (l1 : List S38) : Nat → Int → List Int → Option (List Int)
  | 0, _, acc => some acc
  | n + 1, day, acc => (impl_rowOn.f k l0 l1 day).bind fun r => upList k l0 l1 n (day + 1) (if notUpright r = true then acc else acc ++ [day])
def impl_UprightDays.f (k : Nat) (l0 : List Int) (l1 : List S38) (a2 : Int) (a3 : Int) : Option (List Int × Int) :=
  (impl_spanCode.f k (rowOkB l0 l1) a2 a3).bind fun c => if c = 0 then (if 0 ≤ a2 ∧ a3 ≤ 10000 then (upList k l0 l1 (a3 + 1 - a2).toNat a2 []).bind fun r => some (r, 0) else none) else some ([], c)
theorem upList_mono {l0 : List Int} {l1 : List S38} (k : Nat) : ∀ (n : Nat) (d : Int) (acc : List Int), LeO (upList k l0 l1 n d acc) (upList (k + 1) l0 l1 n d acc)
  | 0, _, _ => LeO.refl _
  | n + 1, d, acc => LeO.bind (impl_rowOn.mono _ _ _ k) (fun _ => upList_mono k n _ _)
theorem impl_UprightDays.mono : ∀ a0 a1 a2 a3 k, LeO (impl_UprightDays.f k a0 a1 a2 a3) (impl_UprightDays.f (k + 1) a0 a1 a2 a3) := fun _ _ _ _ k => LeO.bind (impl_spanCode.mono _ _ _ k) (fun _ => LeO.ite (LeO.ite (LeO.bind (upList_mono k _ _ _) (fun _ => LeO.refl _)) (LeO.none _)) (LeO.refl _))
set_option maxHeartbeats 8000000 in
set_option maxRecDepth 100000 in
theorem impl_UprightDays.calls (k : Nat) (A0 : Option Addr) (c0 : Nat) (l0 : List Int) (A1 : Option Addr) (c1 : Nat) (l1 : List S38) (a2 : Int) (a3 : Int) (r1 : List Int) (r2 : Int) (w : World) (hr0 : Kd.C (Kd.int .u8) w A0 l0.length l0) (hc0 : l0.length ≤ c0) (hr1 : Kd.C k38 w A1 l1.length l1) (hc1 : l1.length ≤ c1) (h : impl_UprightDays.f k l0 l1 a2 a3 = some (r1, r2)) :
    Calls Try.prog 25 #[.slice A0 l0.length c0, .slice A1 l1.length c1, .int .i64 a2, .int .i64 a3] w fun e w' => ∃ v0_ : Value, e = .returned (.tuple #[v0_, .int .i64 r2]) ∧ Kd.R (Kd.int .i64) 2 w' w.heap.size (fun _ => True) v0_ r1 ∧ Below w.heap.size w w' := by
  have HR0 := Aside0.mk hr0
  have HR1 := Aside0.mk hr1
  have HC0 := Aside0.mk hc0
  have HC1 := Aside0.mk hc1
  have HB := Aside0.mk (Below.refl w.heap.size w)
  clear hr0 hr1 hc0 hc1
  obtain ⟨c, hcd, h1⟩ := Option.bind_eq_some_iff.mp h
  clear h
  have HCD := Aside0.mk hcd
  clear hcd
  by_cases hcode : c = 0
  · subst hcode
    rw [if_pos rfl] at h1
    by_cases hrange : 0 ≤ a2 ∧ a3 ≤ 10000
    · rw [if_pos hrange] at h1
      obtain ⟨hra, hrb⟩ := hrange
      obtain ⟨r, hf, h2⟩ := Option.bind_eq_some_iff.mp h1
      simp only [Option.some.injEq, Prod.mk.injEq] at h2
      obtain ⟨rfl, rfl⟩ := h2
      have HF := Aside0.mk hf
      clear h1 hf
      go_enter Try.func25, Try.ntmps25
      go_wp2_with (first
        | (go_at_call 68; refine (impl_rowOk.calls A0 c0 l0 A1 c1 l1 _ _ HR0.out HC0.out HR1.out HC1.out (rowOk_rowOkB l0 l1)).mono ?_; rintro e w2 ⟨rfl, hb⟩; (have HB2 := Aside0.mk hb); clear HB hb)
        | (go_at_call 86; refine (impl_spanCode.calls k _ _ _ _ _ HCD.out).mono ?_; rintro e w3 ⟨rfl, hb⟩; (have HB3 := Aside0.mk (below_step HB2.out hb)); clear HB2; clear hb)
        | ((with_reducible refine gate_dst (N := 22) rfl ?_); refine Kd.R_lit (Kd.int .i64) (w0 := w) w.heap.size 2 rfl (N := 22) rfl (xs := ([] : List Int)) (inner := []) (ok := fun _ => True) (okp := fun _ => True) ?hr (Reps.none _ _) (fun _ hk => hk) trivial HB3.out HB3.out.size (by simp) ?_; (case hr => first | (go_simp; done) | (go_simp; rfl)); intro v22 w22 ho22 hb22 _ _; (have HO := Aside0.mk ho22); (have HB := Aside0.mk hb22); clear ho22 hb22 HB3))
      go_loopw [11, 12] (fun v11 v12 w' => ∃ (d : Int) (acc : List Int), a2 ≤ d ∧ v12 = .int .i64 d ∧ Aside0 (upList k l0 l1 (a3 + 1 - d).toNat d acc = some r) ∧ Aside0 ((acc.length : Int) ≤ d - a2) ∧ Aside0 (Kd.R (Kd.int .i64) 2 w' w.heap.size (fun _ => True) v11 acc) ∧ Aside0 (Below w.heap.size w w')) (fun _ v12 _ => (a3 + 1 - intOf v12).toNat)
      case atStart => exact ⟨a2, [], by omega, rfl, HF, ⟨by simp⟩, HO, HB⟩
      case round =>
        clear HO HB HF HCD
        obtain ⟨d, acc, hd, rfl, HF, HLA, HO, HB⟩ := hrel
        by_cases hle : d ≤ a3
        · have e1 : (a3 + 1 - d).toNat = (a3 + 1 - (d + 1)).toNat + 1 := by omega
          obtain ⟨rr, hrr, hrest⟩ := Option.bind_eq_some_iff.mp (by have := HF.out; rw [e1] at this; exact this)
          have HRR := Aside0.mk hrr
          have HRS := Aside0.mk hrest
          clear hrr hrest e1 HF
          cases hup : notUpright rr with
          | true =>
            rw [hup] at HRS
            have HUP := Aside0.mk hup
            clear hup
            go_wp2_with (first
              | (go_at_call 71; refine (impl_rowOn.calls k A0 c0 l0 A1 c1 l1 d rr _ (Kd.C_below HR0.out HB.out) HC0.out (Kd.C_below HR1.out HB.out) HC1.out HRR.out).mono ?_; rintro e w2 ⟨v2, rfl, ho2, hb2⟩; obtain ⟨A2, c2, rfl⟩ := Kd.R_slice ho2; (have HO2 := Aside0.mk (Kd.R_reads' ho2).2.2); (have HOa := Aside0.mk (Kd.R_below HO.out hb2)); (have HBa := Aside0.mk (below_step HB.out hb2)); clear ho2 hb2 HO HB)
              | (go_at_call 87; refine (containsFunc_u8 _ _ _ A2 c2 rr _ HO2.out (Upright_pred _)).mono ?_; rintro e w3 ⟨rfl, ⟨nd, rfl⟩⟩; (have hupp : (rr.any fun x => x != 0) = true := HUP.out); rw [hupp]; clear hupp))
            go_roundw
            case rel => exact ⟨d + 1, acc, by omega, by go_num, ⟨by simpa using HRS.out⟩, ⟨by have := HLA.out; omega⟩, ⟨Kd.R_drewN HOa.out _⟩, ⟨pw_below_drewN HBa.out _⟩⟩
            case measure => simp [intOf]; omega
          | false =>
            rw [hup] at HRS
            have HUP := Aside0.mk hup
            clear hup
            go_wp2_with (first
              | (go_at_call 71; refine (impl_rowOn.calls k A0 c0 l0 A1 c1 l1 d rr _ (Kd.C_below HR0.out HB.out) HC0.out (Kd.C_below HR1.out HB.out) HC1.out HRR.out).mono ?_; rintro e w2 ⟨v2, rfl, ho2, hb2⟩; obtain ⟨A2, c2, rfl⟩ := Kd.R_slice ho2; (have HO2 := Aside0.mk (Kd.R_reads' ho2).2.2); (have HOa := Aside0.mk (Kd.R_below HO.out hb2)); (have HBa := Aside0.mk (below_step HB.out hb2)); clear ho2 hb2 HO HB)
              | (go_at_call 87; refine (containsFunc_u8 _ _ _ A2 c2 rr _ HO2.out (Upright_pred _)).mono ?_; rintro e w3 ⟨rfl, ⟨nd, rfl⟩⟩; (have hupp : (rr.any fun x => x != 0) = false := HUP.out); rw [hupp]; clear hupp)
              | (at_builtin; refine Kd.R_append (Kd.int .i64) (w0 := w) w.heap.size rfl (.tmp 35) (.tmp 37) 47 2 (.int .i64 0) 8 rfl Try.underlying47 info2 rfl (by decide) (by omega) _ acc d _ (fun _ => True) (fun _ => False) rfl rfl rfl (fun _ hk => hk.elim) (fun _ _ => trivial) (Kd.R_drewN HOa.out _) (pw_below_drewN HBa.out _) HBa.out.size (by have := HLA.out; omega) ?_; intro v38 w38 ho38 hb38 _ _; (have HO38 := Aside0.mk ho38); (have HB38 := Aside0.mk hb38); clear ho38 hb38))
            go_roundw
            case rel => exact ⟨d + 1, acc ++ [d], by omega, by go_num, ⟨by simpa using HRS.out⟩, ⟨by have := HLA.out; simp; omega⟩, HO38, HB38⟩
            case measure => simp [intOf]; omega
        · have e1 : (a3 + 1 - d).toNat = 0 := by omega
          have h3 := HF.out
          rw [e1] at h3
          obtain rfl := Option.some.inj h3
          clear h3 e1 HF
          go_wp2
          go_ret2
          exact ⟨_, rfl, HO.out, HB.out⟩
    · rw [if_neg hrange] at h1
      cases h1
  · rw [if_neg hcode] at h1
    simp only [Option.some.injEq, Prod.mk.injEq] at h1
    obtain ⟨rfl, rfl⟩ := h1
    have hne : (c != 0) = true := bne_iff_ne.mpr hcode
    have hne2 : (c == 0) = false := beq_eq_false_iff_ne.mpr hcode
    clear hcode
    go_enter Try.func25, Try.ntmps25
    go_wp2_with (first
        | (go_at_call 68; refine (impl_rowOk.calls A0 c0 l0 A1 c1 l1 _ _ HR0.out HC0.out HR1.out HC1.out (rowOk_rowOkB l0 l1)).mono ?_; rintro e w2 ⟨rfl, hb⟩; (have HB2 := Aside0.mk hb); clear HB hb)
        | (go_at_call 86; refine (impl_spanCode.calls k _ _ _ _ _ HCD.out).mono ?_; rintro e w3 ⟨rfl, hb⟩; (have HB3 := Aside0.mk (below_step HB2.out hb)); clear HB2; clear hb))
    go_ret2
    exact ⟨_, rfl, Kd.R_nil _ _ _ _ _, HB3.out⟩
end Go.Proofs.Ytmheflciiodhdaa.P
-- Written by wip/tools/mkprint.py of this repo, over the kit's print, out of the translation; Lean checks it.
namespace Go.Proofs.Ytmheflciiodhdaa.P
open Go.RowKit Go.Proofs.YtmheflciiodhdaaW.PrintWords Go.Proofs.YtmheflciiodhdaaW.PrintLast Go.Proofs.YtmheflciiodhdaaW.PrintMore
attribute [local go_sem] max2_int min2_int max_two min_two max_three min_three max_four min_four   -- for this text's walks alone
set_option linter.unusedVariables false
set_option linter.unusedSimpArgs false
/-! ### laws_FnExactUprightDays: function 4 -/
mutual
def laws_FnExactUprightDays.j0 : Nat → List Int → List (S94) → Int → Int → List Int → Int → List Int → List (S38) → List Int → Int → Bool → Option (Bool)
  | 0, _, _, _, _, _, _, _, _, _, _, _ => none
  | k + 1, x0, x1, x2, x3, x10, x11, x12, x13, x14, x15, x59 => if x59 = true then (some false) else ((laws_toRow.f k x0).bind fun t436 => ((laws_eqRow.f k x12 t436).bind fun t439 => (if t439 = true then ((laws_toWalkerS.f k x1).bind fun t440 => ((laws_eqWalkerS.f k x13 t440).bind fun t443 => (if t443 = true then ((laws_markRow.f k x12 1).bind fun bt444 => ((laws_markWalkerS.f k x13 bt444.1).bind fun bt446 => (if bt446.1 < 0 then (laws_FnExactUprightDays.j1 k x0 x1 x2 x3 x10 x11 x14 true) else ((laws_eqInt64S.f k x14 x10).bind fun t448 => (if t448 = true then (laws_FnExactUprightDays.j1 k x0 x1 x2 x3 x10 x11 x14 (x15 != x11)) else (laws_FnExactUprightDays.j1 k x0 x1 x2 x3 x10 x11 x14 true)))))) else (some false)))) else (some false))))
def laws_FnExactUprightDays.j1 : Nat → List Int → List (S94) → Int → Int → List Int → Int → List Int → Bool → Option (Bool)
  | 0, _, _, _, _, _, _, _, _ => none
  | k + 1, x0, x1, x2, x3, x10, x11, x14, x88 => if x88 = true then (some false) else ((laws_markInt64S.f k x14 1).bind fun bt449 => ((laws_heldInt64S.f k bt449.2 1).bind fun t451 => (if t451 < 0 then (some false) else (if t451 = bt449.1 then ((laws_toRow.f k x0).bind fun t452 => ((laws_toWalkerS.f k x1).bind fun t455 => ((impl_UprightDays.f k t452 t455 x2 x3).bind fun bt458 => ((laws_eqInt64S.f k bt458.1 x10).bind fun t462 => (if t462 = true then (laws_FnExactUprightDays.j2 k bt449.2 bt449.1 (bt458.2 != x11)) else (laws_FnExactUprightDays.j2 k bt449.2 bt449.1 true)))))) else (some false)))))
def laws_FnExactUprightDays.j2 : Nat → List Int → Int → Bool → Option (Bool)
  | 0, _, _, _ => none
  | k + 1, x14, x17, x118 => if x118 = true then (some false) else ((laws_heldInt64S.f k x14 1).bind fun t463 => (if t463 < 0 then (some false) else (if t463 = x17 then (some true) else (some false))))
end
def laws_FnExactUprightDays.f (k : Nat) (l0 : List Int) (l1 : List (S94)) (a2 : Int) (a3 : Int) : Option (Bool) := if (l0.length : Int) > 1048576 then (some true) else ((laws_szWalkerS.f l1 1048576).bind fun t414 => (if t414 < 0 then (some true) else ((laws_toRow.f k l0).bind fun t415 => ((laws_toWalkerS.f k l1).bind fun t418 => ((spec_UprightDays.f k t415 t418 a2 a3).bind fun bt421 => ((laws_toRow.f k l0).bind fun t425 => ((laws_toWalkerS.f k l1).bind fun t428 => ((impl_UprightDays.f k t425 t428 a2 a3).bind fun bt431 => ((laws_eqInt64S.f k bt431.1 bt421.1).bind fun t435 => (if t435 = true then (laws_FnExactUprightDays.j0 k l0 l1 a2 a3 bt421.1 bt421.2 t425 t428 bt431.1 bt431.2 (bt431.2 != bt421.2)) else (laws_FnExactUprightDays.j0 k l0 l1 a2 a3 bt421.1 bt421.2 t425 t428 bt431.1 bt431.2 true)))))))))))
end Go.Proofs.Ytmheflciiodhdaa.P
/- UprightDays: the program's list of days and the reference's are the same. -/
namespace Go.Proofs.Ytmheflciiodhdaa.P
set_option linter.unusedVariables false
open Go.RowKit Go.Proofs.YtmheflciiodhdaaW.PrintWords Go.Proofs.YtmheflciiodhdaaW.PrintLast Go.Proofs.YtmheflciiodhdaaW.PrintMore
def rowAt (ws : List S38) (r : List Int) (d : Int) : List Int := rowBy (fun x => untilZ x d) ws r
def outList (ws : List S38) (r : List Int) : Nat → Int → List Int → List Int
  | 0, _, acc => acc
  | n + 1, d, acc => outList ws r n (d + 1) (if notUpright (rowAt ws r d) = true then acc else acc ++ [d])
theorem outList_len (ws : List S38) (r : List Int) : ∀ (n : Nat) (d : Int) (acc : List Int), (outList ws r n d acc).length ≤ acc.length + n
  | 0, _, _ => by simp [outList]
  | n + 1, d, acc => by
    have := outList_len ws r n (d + 1) (if notUpright (rowAt ws r d) = true then acc else acc ++ [d])
    simp only [outList]
    refine Nat.le_trans this ?_
    split <;> simp <;> omega
theorem rowAt_len (ws : List S38) (r : List Int) (d : Int) : (rowAt ws r d).length = r.length := rowBy_len _ _ _
theorem specUpright_ev (l : List Int) (hn : l.length ≤ 1048576) : Ev (fun k => spec_l05Upright.f k l) (!(notUpright l)) := by
  have key : ∀ (d i : Nat), i + d = l.length → Ev (fun k => spec_l05Upright.l0 k l (i : Int)) (!((l.drop i).any fun x => x != 0)) := by
    intro d
    induction d with
    | zero =>
      intro i hi
      refine Ev.one (fun k => ?_)
      simp only [spec_l05Upright.l0]
      rw [if_neg (by omega), List.drop_eq_nil_of_le (by omega)]; simp
    | succ d ih =>
      intro i hi
      have hlt : i < l.length := by omega
      have e := List.drop_eq_getElem_cons hlt
      by_cases h : rd l (i : Int) = 0
      · refine Ev.step (f := fun k => spec_l05Upright.l0 k l ((i + 1 : Nat) : Int)) (fun k => ?_) ?_
        · simp only [spec_l05Upright.l0]
          rw [if_pos (by omega), if_pos (by omega), if_pos h, w64 (by omega) (by omega)]; simp
        · have := ih (i + 1) (by omega)
          rw [e]
          rw [rd_lt hlt] at h
          simpa only [List.any_cons, h, bne_self_eq_false, Bool.false_or] using this
      · refine Ev.one (fun k => ?_)
        simp only [spec_l05Upright.l0]
        rw [if_pos (by omega), if_pos (by omega), if_neg h, e]
        rw [rd_lt hlt] at h
        simp only [List.any_cons, bne_iff_ne.mpr h, Bool.true_or, Bool.not_true]
  exact key l.length 0 (by omega)
theorem specDays_ev {r : List Int} {ws : List S38} {a b : Int} (hb : 1 ≤ r.length) (hb1 : r.length ≤ 60) (hw : ∀ x ∈ ws, WOk r.length x) (h8 : ws.length ≤ 8) (h0 : 0 ≤ a) (h1 : b ≤ 10000) :
    ∀ (n : Nat) (d : Int) (acc row : List Int), b + 1 = d + n → a ≤ d → (d = a → row = rowAt ws r a) → (a < d → row = rowAt ws r (d - 1)) → acc.length + n ≤ 1000000 →
      Ev (fun k => spec_UprightDays.l0 k ws a b acc row d) (outList ws r n d acc, 0)
  | 0, d, acc, row, hn, had, e0, e1, hacc => Ev.one (fun k => by simp only [spec_UprightDays.l0]; rw [if_neg (by omega)]; rfl)
  | n + 1, d, acc, row, hn, had, e0, e1, hacc => by
    have ih := fun acc' hacc' => specDays_ev (a := a) (b := b) hb hb1 hw h8 h0 h1 n (d + 1) acc' (rowAt ws r d) (by omega) (by omega) (fun h => by omega) (fun h => by rw [show d + 1 - 1 = d by omega]) hacc'
    have hup := specUpright_ev (rowAt ws r d) (by rw [rowAt_len]; omega)
    have hgo : Ev (fun k => (spec_l05Upright.f k (rowAt ws r d)).bind fun t => if t = true then (if acc.length < 17592186044416 then spec_UprightDays.l0 k ws a b (acc ++ [d]) (rowAt ws r d) (wrap64 (d + 1)) else none) else spec_UprightDays.l0 k ws a b acc (rowAt ws r d) (wrap64 (d + 1))) (outList ws r (n + 1) d acc, 0) := by
      refine Ev.bind hup ?_
      rw [w64 (by omega) (by omega)]
      simp only [outList, show acc.length < 17592186044416 by omega, if_true]
      cases hnu : notUpright (rowAt ws r d)
      · simpa using ih (acc ++ [d]) (by simp; omega)
      · simpa using ih acc (by omega)
    by_cases had' : d > a
    · refine Ev.step (f := fun k => (spec_l05Behind.f k row ws d).bind fun t306 => ((spec_l05Upright.f k t306).bind fun t309 => (if t309 = true then (if acc.length < 17592186044416 then (spec_UprightDays.l0 k ws a b (acc ++ [d]) t306 (wrap64 (d + 1))) else (none)) else (spec_UprightDays.l0 k ws a b acc t306 (wrap64 (d + 1)))))) (fun k => ?_) (Ev.bind (a := rowAt ws r d) ?_ hgo)
      · simp only [spec_UprightDays.l0]
        rw [if_pos (by omega), if_pos (by omega)]
      · rw [e1 (by omega)]
        have := specBehind_ev (r := rowAt ws r (d - 1)) (ws := ws) (d := d) (by rw [rowAt_len]; exact hb) (by rw [rowAt_len]; exact hb1) (rowBy_bd _ _ _) (by rw [rowAt_len]; exact hw) h8 (by omega) (by omega)
        rw [rowAt, rowBy_rowBy (fun x => untilZ x (d - 1)) (fun x => onZ x d) (fun x => untilZ x d) ws r (fun x hx => by
          have := until_succ (hw x hx) (d - 1)
          rwa [show d - 1 + 1 = d by omega] at this)] at this
        exact this
    · obtain rfl : d = a := by omega
      rw [e0 rfl]
      refine Ev.step (fun k => ?_) hgo
      simp only [spec_UprightDays.l0]
      rw [if_pos (by omega), if_neg (by omega)]
theorem implDays_ev {r : List Int} {ws : List S38} (hb : 1 ≤ r.length) (hb1 : r.length ≤ 60) (hr : ∀ y ∈ r, 0 ≤ y ∧ y ≤ 255) (hw : ∀ x ∈ ws, WOk r.length x) (h8 : ws.length ≤ 8) :
    ∀ (n : Nat) (d : Int) (acc : List Int), 0 ≤ d → d + n ≤ 10001 → Ev (fun k => upList k r ws n d acc) (outList ws r n d acc)
  | 0, d, acc, _, _ => Ev.pure acc
  | n + 1, d, acc, h0, h1 => by
    refine Ev.congr (fun k => rfl) (Ev.bind (implRowOn_ev hb hb1 hr hw h8 h0 (by omega)) (f := fun k t => upList k r ws n (d + 1) (if notUpright t = true then acc else acc ++ [d])) ?_)
    exact implDays_ev hb hb1 hr hw h8 n (d + 1) _ (by omega) (by omega)
/-- Both tell the same. -/
theorem upright_both (r : List Int) (ws : List S38) (a b : Int) (hr : ∀ x ∈ r, 0 ≤ x ∧ x ≤ 255) (ht : ∀ x ∈ ws, WT x) (hn : r.length ≤ 1048576) (hm : ws.length ≤ 1048576) :
    ∃ o c, o.length ≤ 1048576 ∧ Ev (fun k => spec_UprightDays.f k r ws a b) (o, c) ∧ Ev (fun k => impl_UprightDays.f k r ws a b) (o, c) := by
  by_cases hc : spanC (rowOkB r ws) a b = 0
  · have hcc : codeB (rowOkB r ws) (fromB a b) = 0 := by
      unfold spanC at hc; split at hc
      · assumption
      · exact hc
    have hlen : b - a + 1 ≤ 400 := by
      unfold spanC at hc; rw [if_pos hcc] at hc
      split at hc <;> omega
    obtain ⟨hok, hfr⟩ := codeB_zero.mp hcc
    simp only [rowOkB, Bool.and_eq_true] at hok
    have hfr := fromB_iff.mp hfr
    obtain ⟨r1, r2, r3⟩ := row_of_valid hr hok.1
    obtain ⟨-, h8, hw⟩ := WOk_of_valid ht hok.2
    refine ⟨outList ws r (b + 1 - a).toNat a [], 0, ?_, ?_, ?_⟩
    · have := outList_len ws r (b + 1 - a).toNat a []
      simp at this; omega
    · have hgo := specDays_ev (r := r) (ws := ws) (a := a) (b := b) (by omega) (by omega) hw h8 (by omega) (by omega) (b + 1 - a).toNat a [] (rowAt ws r a) (by omega) (by omega) (fun _ => rfl) (fun h => by omega) (by simp; omega)
      have hwh := specWhole_ev (r := r) (ws := ws) (d := a) (by omega) (by omega) r3 hw h8 (by omega) (by omega)
      have := Ev.bind (specRow_ev r ws (fromB a b) hn hm) (f := fun k t301 => (spec_l05Span.f t301 a b).bind fun t302 => if t302 = 0 then ((spec_l05Whole.f k r ws a).bind fun t303 => spec_UprightDays.l0 k ws a b [] t303 a) else some ([], t302)) (r := (outList ws r (b + 1 - a).toNat a [], 0)) (by
        simp only [l05Span_eq, Option.bind_some, hc, if_true]
        exact Ev.bind hwh hgo)
      refine Ev.congr (fun k => ?_) this
      simp only [spec_UprightDays.f, l05From_eq, Option.bind_some]
    · have := Ev.bind (spanCode_ev (rowOkB r ws) a b) (f := fun k c => if c = 0 then (if 0 ≤ a ∧ b ≤ 10000 then (upList k r ws (b + 1 - a).toNat a []).bind fun t => some (t, (0 : Int)) else none) else some ([], c)) (r := (outList ws r (b + 1 - a).toNat a [], 0)) (by
        simp only [hc, if_true, show 0 ≤ a ∧ b ≤ 10000 from ⟨by omega, by omega⟩, and_self]
        exact Ev.bind (implDays_ev (by omega) (by omega) hr hw h8 _ _ _ (by omega) (by omega)) (Ev.pure _))
      exact Ev.congr (fun k => rfl) this
  · refine ⟨[], spanC (rowOkB r ws) a b, by simp, ?_, ?_⟩
    · have := Ev.bind (specRow_ev r ws (fromB a b) hn hm) (f := fun k t301 => (spec_l05Span.f t301 a b).bind fun t302 => if t302 = 0 then ((spec_l05Whole.f k r ws a).bind fun t303 => spec_UprightDays.l0 k ws a b [] t303 a) else some ([], t302)) (r := ([], spanC (rowOkB r ws) a b)) (by
        simp only [l05Span_eq, Option.bind_some, if_neg hc]
        exact Ev.pure _)
      refine Ev.congr (fun k => ?_) this
      simp only [spec_UprightDays.f, l05From_eq, Option.bind_some]
    · have := Ev.bind (spanCode_ev (rowOkB r ws) a b) (f := fun k c => if c = 0 then (if 0 ≤ a ∧ b ≤ 10000 then (upList k r ws (b + 1 - a).toNat a []).bind fun t => some (t, (0 : Int)) else none) else some ([], c)) (r := ([], spanC (rowOkB r ws) a b)) (by
        simp only [if_neg hc]
        exact Ev.pure _)
      exact Ev.congr (fun k => rfl) this
theorem FnExactUprightDays_true (l0 : List Int) (l1 : List S94) (a b : Int) (hr : ∀ x ∈ l0, 0 ≤ x ∧ x ≤ 255) (ht : ∀ x ∈ l1, WT (convW x)) (hlen : l1.length ≤ 9223372036854775807) : Ev (fun k => laws_FnExactUprightDays.f k l0 l1 a b) true := by
  unfold laws_FnExactUprightDays.f
  by_cases hn : (l0.length : Int) > 1048576
  · exact Ev.some (fun k => by rw [if_pos hn])
  obtain ⟨bud, hbud⟩ := szWalkerS_ex l1
  simp only [if_neg hn, hbud, Option.bind_some]
  by_cases hm : bud < 0
  · exact Ev.some (fun k => by rw [if_pos hm])
  simp only [if_neg hm]
  have hmm := szWalkerS_some l1 hlen bud hbud hm
  have hrow := toRow_ev l0 (by omega)
  have hws := toWalkerS_ev l1 hmm
  obtain ⟨o, c, ho, hs, hi⟩ := upright_both l0 (l1.map convW) a b hr (by simpa using ht) (by omega) (by simpa using hmm)
  obtain ⟨y1, hm1⟩ := markRow_ev l0 1 (by omega) (by omega) (by omega)
  obtain ⟨y2, hm2⟩ := markWalkerS_ev (l1.map convW) (1 + l0.length) (by omega) (by omega) (by simpa using hmm)
  have hh := heldInt64S_ev o.length (by omega)
  refine Ev.bind hrow (Ev.bind hws (Ev.bind hs (Ev.bind hrow (Ev.bind hws (Ev.bind hi (Ev.bind (eqInt64S_ev o ho) ?_))))))
  simp only [bne_self_eq_false, if_true]
  refine Ev.step (fun k => by rw [laws_FnExactUprightDays.j0, if_neg (by decide)]) ?_
  refine Ev.bind hrow (Ev.bind (eqRow_ev l0 (by omega)) ?_)
  simp only [if_true]
  refine Ev.bind hws (Ev.bind (eqWalkerS_ev _ (by simpa using hmm)) ?_)
  simp only [if_true]
  refine Ev.bind hm1 (Ev.bind hm2 ?_)
  simp only [show ¬ (1 + (l0.length : Int) + 6 * ((l1.map convW).length : Int) < 0) by omega, if_false]
  refine Ev.bind (eqInt64S_ev o ho) ?_
  simp only [bne_self_eq_false, if_true]
  refine Ev.step (fun k => by rw [laws_FnExactUprightDays.j1, if_neg (by decide)]) ?_
  refine Ev.bind (markInt64S_ev o ho) (Ev.bind hh ?_)
  simp only [show ¬ (1 + (o.length : Int) < 0) by omega, if_false, if_true]
  refine Ev.bind hrow (Ev.bind hws (Ev.bind hi (Ev.bind (eqInt64S_ev o ho) ?_)))
  simp only [bne_self_eq_false, if_true]
  refine Ev.step (fun k => by rw [laws_FnExactUprightDays.j2, if_neg (by decide)]) ?_
  refine Ev.bind hh ?_
  simp only [show ¬ (1 + (o.length : Int) < 0) by omega, if_false, if_true]
  exact Ev.pure _
theorem FnExactUprightDays_ev (a0 : List Int) (a1 : List S94) (a2 : Int) (a3 : Int) (g0 : (∀ x ∈ a0, (0 ≤ x ∧ x ≤ 255))) (b0 : a0.length ≤ 9223372036854775807) (g1 : (∀ x ∈ a1, (-32768 ≤ x.f0 ∧ x.f0 ≤ 32767) ∧ (-32768 ≤ x.f1 ∧ x.f1 ≤ 32767) ∧ (-32768 ≤ x.f2 ∧ x.f2 ≤ 32767) ∧ (-32768 ≤ x.f3 ∧ x.f3 ≤ 32767) ∧ (-32768 ≤ x.f4 ∧ x.f4 ≤ 32767) ∧ (-128 ≤ x.f5 ∧ x.f5 ≤ 127))) (b1 : a1.length ≤ 9223372036854775807) (g2 : (-9223372036854775808 ≤ a2 ∧ a2 ≤ 9223372036854775807)) (g3 : (-9223372036854775808 ≤ a3 ∧ a3 ≤ 9223372036854775807)) : Ev (fun k => laws_FnExactUprightDays.f k a0 a1 a2 a3) true :=
  FnExactUprightDays_true a0 a1 a2 a3 g0 (fun x hx => by obtain ⟨h0, h1, h2, h3, h4, h5⟩ := g1 x hx; exact ⟨h0, h1, h2, h3, h4, h5⟩) b1
end Go.Proofs.Ytmheflciiodhdaa.P
-- Written by wip/tools/mkprint.py of this repo, over the kit's print, out of the translation; Lean checks it.
namespace Go.Proofs.Ytmheflciiodhdaa.P
open Go.RowKit Go.Proofs.YtmheflciiodhdaaW.PrintWords Go.Proofs.YtmheflciiodhdaaW.PrintLast Go.Proofs.YtmheflciiodhdaaW.PrintMore
attribute [local go_sem] max2_int min2_int max_two min_two max_three min_three max_four min_four   -- for this text's walks alone
set_option linter.unusedVariables false
set_option linter.unusedSimpArgs false
/-! ### impl_DaysOf: given -/
set_option maxHeartbeats 1000000 in
theorem DaysOf_cnt (w : World) (g g2 : Nat) (d d2 : Int) (xs : List S38) (hx : ∀ x ∈ xs, (betweenO x d d2).isSome = true) (hc : w.cell? ⟨g, 0, none⟩ = some (.int .i64 d)) (hc2 : w.cell? ⟨g2, 0, none⟩ = some (.int .i64 d2)) : CntW 103 #[.pointer (some ⟨g, 0, none⟩), .pointer (some ⟨g2, 0, none⟩)] (fun x => betweenT x d d2) xs w := by
  refine ⟨enters_of Try.func103 (by kernel_rfl) rfl, fun W hW x hm => ?_⟩
  show Calls Try.prog 103 #[encW x, .pointer (some ⟨g, 0, none⟩), .pointer (some ⟨g2, 0, none⟩)] W _
  obtain ⟨v, hv⟩ := Option.isSome_iff_exists.mp (hx x hm)
  have HV := Aside0.mk hv
  have hT : betweenT x d d2 = v := by unfold betweenT; rw [hv]; rfl
  rw [hT]
  have hlt := World.block_lt_of_cell? w _ hc
  have hc' := pw_cell_below hW hc
  have hlt2 := World.block_lt_of_cell? w _ hc2
  have hc2' := pw_cell_below hW hc2
  have hg2' : g2 < W.heap.size := by have := hW.size; simp at hlt2; omega
  have hg' : g < W.heap.size := by have := hW.size; simp at hlt; omega
  have hu := Try.underlying38
  clear hc hlt hc2 hlt2 hW hv hx hm hT
  unfold encW
  go_enter Try.func103, Try.ntmps103
  go_wp2_with (go_at_call 81; refine (impl_Walker_between.calls _ _ _ _ _ _ _ _ v _ HV.out).mono ?_; rintro e w' ⟨rfl, hb⟩; have HB := Aside0.mk hb; clear hb)
  go_ret
  exact ⟨rfl, below_step (below_alloc (Below.refl _ _) _) HB.out⟩
def impl_DaysOf.f (k : Nat) (l0 : List Int) (l1 : List S38) (a2 : Int) (a3 : Int) : Option (List Int × Int) :=
  (impl_spanCode.f k (rowOkB l0 l1) a2 a3).bind fun c => if c = 0 then (if l1.all (fun x => (betweenO x a2 a3).isSome) = true then (walkedF k l0 l1 (fun x => betweenT x a2 a3)).bind fun r => some (r, 0) else none) else some ([], c)
theorem impl_DaysOf.mono : ∀ a0 a1 a2 a3 k, LeO (impl_DaysOf.f k a0 a1 a2 a3) (impl_DaysOf.f (k + 1) a0 a1 a2 a3) := fun _ _ _ _ k => LeO.bind (impl_spanCode.mono _ _ _ k) (fun _ => LeO.ite (LeO.ite (LeO.bind (walkedF_mono k) (fun _ => LeO.refl _)) (LeO.none _)) (LeO.refl _))
set_option maxHeartbeats 8000000 in
set_option maxRecDepth 100000 in
theorem impl_DaysOf.calls (k : Nat) (A0 : Option Addr) (c0 : Nat) (l0 : List Int) (A1 : Option Addr) (c1 : Nat) (l1 : List S38) (a2 : Int) (a3 : Int) (r1 : List Int) (r2 : Int) (w : World) (hr0 : Kd.C (Kd.int .u8) w A0 l0.length l0) (hc0 : l0.length ≤ c0) (hr1 : Kd.C k38 w A1 l1.length l1) (hc1 : l1.length ≤ c1) (h : impl_DaysOf.f k l0 l1 a2 a3 = some (r1, r2)) :
    Calls Try.prog 54 #[.slice A0 l0.length c0, .slice A1 l1.length c1, .int .i64 a2, .int .i64 a3] w fun e w' => ∃ v0_ : Value, e = .returned (.tuple #[v0_, .int .i64 r2]) ∧ Kd.R (Kd.int .u8) 5 w' w.heap.size (fun _ => True) v0_ r1 ∧ Below w.heap.size w w' := by
  have HR0 := Aside0.mk hr0
  have HR1 := Aside0.mk hr1
  have HC0 := Aside0.mk hc0
  have HC1 := Aside0.mk hc1
  clear hr0 hr1 hc0 hc1
  obtain ⟨c, hcd, h1⟩ := Option.bind_eq_some_iff.mp h
  clear h
  have HCD := Aside0.mk hcd
  clear hcd
  by_cases hcode : c = 0
  · subst hcode
    rw [if_pos rfl] at h1
    have hx : l1.all (fun x => (betweenO x a2 a3).isSome) = true := by
      cases hh : l1.all (fun x => (betweenO x a2 a3).isSome) with
      | true => rfl
      | false => rw [hh] at h1; simp at h1
    rw [if_pos hx] at h1
    obtain ⟨r, hf, h2⟩ := Option.bind_eq_some_iff.mp h1
    simp only [Option.some.injEq, Prod.mk.injEq] at h2
    obtain ⟨rfl, rfl⟩ := h2
    have HF := Aside0.mk hf
    have HX := Aside0.mk (List.all_eq_true.mp hx)
    clear h1 hf hx
    go_enter Try.func54, Try.ntmps54
    go_wp2
    have hbx0 : ((w.alloc (.cells #[.int .i64 a2] 2)).alloc (.cells #[.int .i64 a3] 2)).cell? ⟨w.heap.size, 0, none⟩ = some (.int .i64 a2) ∧ ((w.alloc (.cells #[.int .i64 a2] 2)).alloc (.cells #[.int .i64 a3] 2)).cell? ⟨w.heap.size + 1, 0, none⟩ = some (.int .i64 a3) := by simp
    have HR0' := Aside0.mk (Kd.C_alloc (Kd.C_alloc HR0.out (.cells #[.int .i64 a2] 2)) (.cells #[.int .i64 a3] 2))
    have HR1' := Aside0.mk (Kd.C_alloc (Kd.C_alloc HR1.out (.cells #[.int .i64 a2] 2)) (.cells #[.int .i64 a3] 2))
    have HBW := Aside0.mk (below_alloc (below_alloc (Below.refl w.heap.size w) (.cells #[.int .i64 a2] 2)) (.cells #[.int .i64 a3] 2))
    have HSZ := Aside0.mk (show w.heap.size ≤ ((w.alloc (.cells #[.int .i64 a2] 2)).alloc (.cells #[.int .i64 a3] 2)).heap.size by simp; omega)
    generalize (w.alloc (.cells #[.int .i64 a2] 2)).alloc (.cells #[.int .i64 a3] 2) = w1 at hbx0 HR0' HR1' HBW HSZ ⊢
    obtain ⟨hbx1, hbx2⟩ := hbx0
    have HB := Aside0.mk (Below.refl w1.heap.size w1)
    have HBX := Aside0.mk (And.intro hbx1 hbx2)
    go_region_with (first
      | (go_at_call 68; refine (impl_rowOk.calls A0 c0 l0 A1 c1 l1 _ _ (Kd.C_below HR0'.out (by repeat (first | exact HB.out | apply below_alloc | apply pw_below_drewN | apply below_drew1))) HC0.out (Kd.C_below HR1'.out (by repeat (first | exact HB.out | apply below_alloc | apply pw_below_drewN | apply below_drew1))) HC1.out (rowOk_rowOkB l0 l1)).mono ?_; rintro e w2 ⟨rfl, hb⟩; (have hbxa := (pw_cell_below (below_step (by repeat (first | exact HB.out | apply below_alloc | apply pw_below_drewN | apply below_drew1)) hb) HBX.out.1)); (have hbxb := (pw_cell_below (below_step (by repeat (first | exact HB.out | apply below_alloc | apply pw_below_drewN | apply below_drew1)) hb) HBX.out.2)); (have n0_ := Aside0.mk (below_step (by repeat (first | exact HB.out | apply below_alloc | apply pw_below_drewN | apply below_drew1)) hb)); clear HB; have HB := n0_; clear n0_; clear hb)
      | (go_at_call 86; refine (impl_spanCode.calls k _ _ _ _ _ HCD.out).mono ?_; rintro e w4 ⟨rfl, hb⟩; (have n0_ := Aside0.mk (below_step (by repeat (first | exact HB.out | apply below_alloc | apply pw_below_drewN | apply below_drew1)) hb)); clear HB; have HB := n0_; clear n0_; clear hb))
    all_goals
      go_wp2_with (go_at_call 70; refine (walked_calls k A0 c0 l0 A1 c1 l1 _ _ _ r _ (Kd.C_below HR0'.out (by repeat (first | exact HB.out | apply below_alloc | apply pw_below_drewN | apply below_drew1))) (Kd.C_below HR1'.out (by repeat (first | exact HB.out | apply below_alloc | apply pw_below_drewN | apply below_drew1))) (DaysOf_cnt _ _ _ a2 a3 l1 HX.out (pw_cell_below (by repeat (first | exact HB.out | apply below_alloc | apply pw_below_drewN | apply below_drew1)) HBX.out.1) (pw_cell_below (by repeat (first | exact HB.out | apply below_alloc | apply pw_below_drewN | apply below_drew1)) HBX.out.2)) HF.out).mono ?_; rintro e w5 ⟨v, rfl, ho, hb⟩; (have HO := Aside0.mk (Kd.R_lower ho (by exact (below_size (w := w1) (by repeat (first | exact HB.out | apply below_alloc | apply pw_below_drewN | apply below_drew1)))))); (have n0_ := Aside0.mk (below_step (by repeat (first | exact HB.out | apply below_alloc | apply pw_below_drewN | apply below_drew1)) hb)); clear HB; have HB := n0_; clear n0_ ho hb)
      go_ret2
      exact ⟨_, rfl, Kd.R_lower HO.out HSZ.out, below_step HBW.out HB.out⟩
  · rw [if_neg hcode] at h1
    simp only [Option.some.injEq, Prod.mk.injEq] at h1
    obtain ⟨rfl, rfl⟩ := h1
    have hne : (c != 0) = true := bne_iff_ne.mpr hcode
    have hne2 : (c == 0) = false := beq_eq_false_iff_ne.mpr hcode
    clear hcode
    go_enter Try.func54, Try.ntmps54
    go_wp2
    have hbx0 : ((w.alloc (.cells #[.int .i64 a2] 2)).alloc (.cells #[.int .i64 a3] 2)).cell? ⟨w.heap.size, 0, none⟩ = some (.int .i64 a2) ∧ ((w.alloc (.cells #[.int .i64 a2] 2)).alloc (.cells #[.int .i64 a3] 2)).cell? ⟨w.heap.size + 1, 0, none⟩ = some (.int .i64 a3) := by simp
    have HR0' := Aside0.mk (Kd.C_alloc (Kd.C_alloc HR0.out (.cells #[.int .i64 a2] 2)) (.cells #[.int .i64 a3] 2))
    have HR1' := Aside0.mk (Kd.C_alloc (Kd.C_alloc HR1.out (.cells #[.int .i64 a2] 2)) (.cells #[.int .i64 a3] 2))
    have HBW := Aside0.mk (below_alloc (below_alloc (Below.refl w.heap.size w) (.cells #[.int .i64 a2] 2)) (.cells #[.int .i64 a3] 2))
    have HSZ := Aside0.mk (show w.heap.size ≤ ((w.alloc (.cells #[.int .i64 a2] 2)).alloc (.cells #[.int .i64 a3] 2)).heap.size by simp; omega)
    generalize (w.alloc (.cells #[.int .i64 a2] 2)).alloc (.cells #[.int .i64 a3] 2) = w1 at hbx0 HR0' HR1' HBW HSZ ⊢
    obtain ⟨hbx1, hbx2⟩ := hbx0
    have HB := Aside0.mk (Below.refl w1.heap.size w1)
    have HBX := Aside0.mk (And.intro hbx1 hbx2)
    go_region_with (first
      | (go_at_call 68; refine (impl_rowOk.calls A0 c0 l0 A1 c1 l1 _ _ (Kd.C_below HR0'.out (by repeat (first | exact HB.out | apply below_alloc | apply pw_below_drewN | apply below_drew1))) HC0.out (Kd.C_below HR1'.out (by repeat (first | exact HB.out | apply below_alloc | apply pw_below_drewN | apply below_drew1))) HC1.out (rowOk_rowOkB l0 l1)).mono ?_; rintro e w2 ⟨rfl, hb⟩; (have hbxa := (pw_cell_below (below_step (by repeat (first | exact HB.out | apply below_alloc | apply pw_below_drewN | apply below_drew1)) hb) HBX.out.1)); (have hbxb := (pw_cell_below (below_step (by repeat (first | exact HB.out | apply below_alloc | apply pw_below_drewN | apply below_drew1)) hb) HBX.out.2)); (have n0_ := Aside0.mk (below_step (by repeat (first | exact HB.out | apply below_alloc | apply pw_below_drewN | apply below_drew1)) hb)); clear HB; have HB := n0_; clear n0_; clear hb)
      | (go_at_call 86; refine (impl_spanCode.calls k _ _ _ _ _ HCD.out).mono ?_; rintro e w4 ⟨rfl, hb⟩; (have n0_ := Aside0.mk (below_step (by repeat (first | exact HB.out | apply below_alloc | apply pw_below_drewN | apply below_drew1)) hb)); clear HB; have HB := n0_; clear n0_; clear hb))
    all_goals
      go_wp2
      go_ret2
      exact ⟨_, rfl, Kd.R_nil _ _ _ _ _, below_step HBW.out (by repeat (first | exact HB.out | apply below_alloc | apply pw_below_drewN | apply below_drew1))⟩
end Go.Proofs.Ytmheflciiodhdaa.P
-- Written by wip/tools/mkprint.py of this repo, over the kit's print, out of the translation; Lean checks it.
namespace Go.Proofs.Ytmheflciiodhdaa.P
open Go.RowKit Go.Proofs.YtmheflciiodhdaaW.PrintWords Go.Proofs.YtmheflciiodhdaaW.PrintLast Go.Proofs.YtmheflciiodhdaaW.PrintMore
attribute [local go_sem] max2_int min2_int max_two min_two max_three min_three max_four min_four   -- for this text's walks alone
set_option linter.unusedVariables false
set_option linter.unusedSimpArgs false
/-! ### impl_NeverTurned: function 55 -/
mutual
def impl_NeverTurned.l0 : Nat → Int → List Int → List Int → List (S38) → Int → Int → Option (List Int × Int)
  | 0, _, _, _, _, _, _ => none
  | k + 1, x0, x6, x7, x21, x22, x23 => if x23 < x22 then (if 0 ≤ x23 then (if x23 < (x21.length : Int) then ((impl_Walker_visits.f k ((rd_T38 x21 x23).f0) ((rd_T38 x21 x23).f1) ((rd_T38 x21 x23).f2) ((rd_T38 x21 x23).f3) ((rd_T38 x21 x23).f4) ((rd_T38 x21 x23).f5) x0).bind fun t741 => (impl_NeverTurned.l1 k x0 x6 x7 x21 x22 x23 t741 (t741.length : Int) 0)) else (none)) else (none)) else (impl_NeverTurned.l2 k x7 x6 (x6.length : Int) 0)
def impl_NeverTurned.l1 : Nat → Int → List Int → List Int → List (S38) → Int → Int → List Int → Int → Int → Option (List Int × Int)
  | 0, _, _, _, _, _, _, _, _, _ => none
  | k + 1, x0, x6, x7, x21, x22, x23, x29, x30, x31 => if x31 < x30 then (if 0 ≤ x31 then (if x31 < (x29.length : Int) then (if x31 < (x6.length : Int) then (impl_NeverTurned.l1 k x0 (x6.set (x31 : Int).toNat (wrap64 ((rd x6 x31) + (rd x29 x31)))) x7 x21 x22 x23 x29 x30 (wrap64 (x31 + 1))) else (none)) else (none)) else (none)) else (impl_NeverTurned.l0 k x0 x6 x7 x21 x22 (wrap64 (x23 + 1)))
def impl_NeverTurned.l2 : Nat → List Int → List Int → Int → Int → Option (List Int × Int)
  | 0, _, _, _, _ => none
  | k + 1, x7, x45, x46, x47 => if x47 < x46 then (if 0 ≤ x47 then (if x47 < (x45.length : Int) then (if (rd x45 x47) = 0 then (if x7.length < 17592186044416 then (impl_NeverTurned.l2 k (x7 ++ [x47]) x45 x46 (wrap64 (x47 + 1))) else (none)) else (impl_NeverTurned.l2 k x7 x45 x46 (wrap64 (x47 + 1)))) else (none)) else (none)) else (some (x7, 0))
end
def impl_NeverTurned.f (k : Nat) (a0 : Int) (l1 : List (S38)) : Option (List Int × Int) := (impl_ValidWalkers.f a0 l1).bind fun t732 => (if t732 = true then (if 0 ≤ a0 then (if (a0 : Int).toNat ≤ 35184372088832 then (impl_NeverTurned.l0 k a0 (List.replicate (a0 : Int).toNat 0) (([] : List Int)) l1 (l1.length : Int) 0) else (none)) else (none)) else (some (([] : List Int), 1)))
theorem impl_NeverTurned.mono_l : ∀ k, (∀ y0 y1 y2 y3 y4 y5, LeO (impl_NeverTurned.l0 k y0 y1 y2 y3 y4 y5) (impl_NeverTurned.l0 (k + 1) y0 y1 y2 y3 y4 y5)) ∧ (∀ y0 y1 y2 y3 y4 y5 y6 y7 y8, LeO (impl_NeverTurned.l1 k y0 y1 y2 y3 y4 y5 y6 y7 y8) (impl_NeverTurned.l1 (k + 1) y0 y1 y2 y3 y4 y5 y6 y7 y8)) ∧ (∀ y0 y1 y2 y3, LeO (impl_NeverTurned.l2 k y0 y1 y2 y3) (impl_NeverTurned.l2 (k + 1) y0 y1 y2 y3))
  | 0 => ⟨fun _ _ _ _ _ _ r h => by simp [impl_NeverTurned.l0] at h, fun _ _ _ _ _ _ _ _ _ r h => by simp [impl_NeverTurned.l1] at h, fun _ _ _ _ r h => by simp [impl_NeverTurned.l2] at h⟩
  | k + 1 => by
    obtain ⟨ih0, ih1, ih2⟩ := impl_NeverTurned.mono_l k
    refine ⟨?_, ?_, ?_⟩
    · intro y0 y1 y2 y3 y4 y5
      unfold impl_NeverTurned.l0
      repeat' first
      | (with_reducible exact ih0 _ _ _ _ _ _)
      | (with_reducible exact ih1 _ _ _ _ _ _ _ _ _)
      | (with_reducible exact ih2 _ _ _ _)
      | (with_reducible exact impl_Walker_visits.mono _ _ _ _ _ _ _ _)
      | (with_reducible exact LeO.refl _)
      | (with_reducible exact LeO.none _)
      | (with_reducible refine LeO.ite ?_ ?_)
      | (with_reducible refine LeO.bind ?_ (fun _ => ?_))
      | exact ih0 _ _ _ _ _ _
      | exact ih1 _ _ _ _ _ _ _ _ _
      | exact ih2 _ _ _ _
      | exact impl_Walker_visits.mono _ _ _ _ _ _ _ _
      | exact LeO.none _
      | refine LeO.ite ?_ ?_
      | refine LeO.bind ?_ (fun _ => ?_)
    · intro y0 y1 y2 y3 y4 y5 y6 y7 y8
      unfold impl_NeverTurned.l1
      repeat' first
      | (with_reducible exact ih0 _ _ _ _ _ _)
      | (with_reducible exact ih1 _ _ _ _ _ _ _ _ _)
      | (with_reducible exact ih2 _ _ _ _)
      | (with_reducible exact impl_Walker_visits.mono _ _ _ _ _ _ _ _)
      | (with_reducible exact LeO.refl _)
      | (with_reducible exact LeO.none _)
      | (with_reducible refine LeO.ite ?_ ?_)
      | (with_reducible refine LeO.bind ?_ (fun _ => ?_))
      | exact ih0 _ _ _ _ _ _
      | exact ih1 _ _ _ _ _ _ _ _ _
      | exact ih2 _ _ _ _
      | exact impl_Walker_visits.mono _ _ _ _ _ _ _ _
      | exact LeO.none _
      | refine LeO.ite ?_ ?_
      | refine LeO.bind ?_ (fun _ => ?_)
    · intro y0 y1 y2 y3
      unfold impl_NeverTurned.l2
      repeat' first
      | (with_reducible exact ih0 _ _ _ _ _ _)
      | (with_reducible exact ih1 _ _ _ _ _ _ _ _ _)
      | (with_reducible exact ih2 _ _ _ _)
      | (with_reducible exact impl_Walker_visits.mono _ _ _ _ _ _ _ _)
      | (with_reducible exact LeO.refl _)
      | (with_reducible exact LeO.none _)
      | (with_reducible refine LeO.ite ?_ ?_)
      | (with_reducible refine LeO.bind ?_ (fun _ => ?_))
      | exact ih0 _ _ _ _ _ _
      | exact ih1 _ _ _ _ _ _ _ _ _
      | exact ih2 _ _ _ _
      | exact impl_Walker_visits.mono _ _ _ _ _ _ _ _
      | exact LeO.none _
      | refine LeO.ite ?_ ?_
      | refine LeO.bind ?_ (fun _ => ?_)
theorem impl_NeverTurned.mono : ∀ a0 a1 k, LeO (impl_NeverTurned.f k a0 a1) (impl_NeverTurned.f (k + 1) a0 a1) := by
  intro a0 a1 k
  obtain ⟨ih0, ih1, ih2⟩ := impl_NeverTurned.mono_l k
  unfold impl_NeverTurned.f
  repeat' first
      | (with_reducible exact ih0 _ _ _ _ _ _)
      | (with_reducible exact ih1 _ _ _ _ _ _ _ _ _)
      | (with_reducible exact ih2 _ _ _ _)
      | (with_reducible exact impl_Walker_visits.mono _ _ _ _ _ _ _ _)
      | (with_reducible exact LeO.refl _)
      | (with_reducible exact LeO.none _)
      | (with_reducible refine LeO.ite ?_ ?_)
      | (with_reducible refine LeO.bind ?_ (fun _ => ?_))
      | exact ih0 _ _ _ _ _ _
      | exact ih1 _ _ _ _ _ _ _ _ _
      | exact ih2 _ _ _ _
      | exact impl_Walker_visits.mono _ _ _ _ _ _ _ _
      | exact LeO.none _
      | refine LeO.ite ?_ ?_
      | refine LeO.bind ?_ (fun _ => ?_)
set_option maxHeartbeats 8000000 in
set_option maxRecDepth 100000 in
theorem impl_NeverTurned.calls (k : Nat) (a0 : Int) (A1 : Option Addr) (c1 : Nat) (l1 : List (S38)) (r1 : List Int) (r2 : Int) (w : World) (hr1 : Kd.C k38 w A1 l1.length l1) (hc1 : l1.length ≤ c1) (h : impl_NeverTurned.f k a0 l1 = some (r1, r2)) :
    Calls Try.prog 55 #[.int .i64 a0, .slice A1 l1.length c1] w fun e w' => ∃ v0_ : Value, e = .returned (.tuple #[v0_, .int .i64 r2]) ∧ Kd.R (Kd.int .i64) 2 w' w.heap.size (fun _ => True) v0_ r1 ∧ Below w.heap.size w w' := by
  have hu38 := Try.underlying38
  have HR1 := Aside0.mk hr1
  have HC1 := Aside0.mk hc1
  clear hr1 hc1
  have HB := Aside0.mk (Below.refl w.heap.size w)
  have H : ((impl_ValidWalkers.f a0 l1).bind fun t732 => (if t732 = true then (if 0 ≤ a0 then (if (a0 : Int).toNat ≤ 35184372088832 then (impl_NeverTurned.l0 k a0 (List.replicate (a0 : Int).toNat 0) (([] : List Int)) l1 (l1.length : Int) 0) else (none)) else (none)) else (some (([] : List Int), 1)))) = some (r1, r2) := h
  clear h
  replace H := Option.bind_eq_some_iff.mp H
  obtain ⟨t732, A30, H⟩ := H
  replace H : (if t732 = true then (if 0 ≤ a0 then (if (a0 : Int).toNat ≤ 35184372088832 then (impl_NeverTurned.l0 k a0 (List.replicate (a0 : Int).toNat 0) (([] : List Int)) l1 (l1.length : Int) 0) else (none)) else (none)) else (some (([] : List Int), 1))) = some (r1, r2) := H
  have A3 := Aside0.mk A30
  clear A30
  by_cases c4 : t732 = true
  · subst c4
    have H1 : (if 0 ≤ a0 then (if (a0 : Int).toNat ≤ 35184372088832 then (impl_NeverTurned.l0 k a0 (List.replicate (a0 : Int).toNat 0) (([] : List Int)) l1 (l1.length : Int) 0) else (none)) else (none)) = some (r1, r2) := by rw [if_pos rfl] at H; exact H
    clear H
    have H := H1
    clear H1
    by_cases c5 : 0 ≤ a0
    · rw [if_pos c5] at H
      have c5b0 := eq_true c5
      have c5b1 : decide (0 ≤ a0) = true := decide_eq_true c5
      clear c5
      by_cases c6 : (a0 : Int).toNat ≤ 35184372088832
      · rw [if_pos c6] at H
        have c6b0 := eq_true c6
        have c6b1 : decide ((a0 : Int).toNat ≤ 35184372088832) = true := decide_eq_true c6
        clear c6
        obtain ⟨y733, hy733⟩ : ∃ y_ : List Int, y_ = (List.replicate (a0 : Int).toNat 0) := ⟨_, rfl⟩
        replace H : (impl_NeverTurned.l0 k a0 y733 (([] : List Int)) l1 (l1.length : Int) 0) = some (r1, r2) := by first | (rw [hy733]; with_reducible exact H) | (have H2_ := (Option.bind_some _ _).symm.trans H; rw [hy733]; with_reducible exact H2_) | (have H2_ := (Option.bind_some _ _).symm.trans H; with_reducible exact H2_) | with_reducible exact H | (rw [hy733]; exact H) | exact H
        have Ny733 := Aside0.mk hy733
        clear hy733
        obtain ⟨y736, hy736⟩ : ∃ y_ : List Int, y_ = (([] : List Int)) := ⟨_, rfl⟩
        replace H : (impl_NeverTurned.l0 k a0 y733 y736 l1 (l1.length : Int) 0) = some (r1, r2) := by first | (rw [hy736]; with_reducible exact H) | (have H2_ := (Option.bind_some _ _).symm.trans H; rw [hy736]; with_reducible exact H2_) | (have H2_ := (Option.bind_some _ _).symm.trans H; with_reducible exact H2_) | with_reducible exact H | (rw [hy736]; exact H) | exact H
        have Ny736 := Aside0.mk hy736
        clear hy736
        have H' := Aside0.mk H
        clear H
        go_enter Try.func55, Try.ntmps55
        go_wp2_with (first | ((with_reducible refine gate_callee (f := 51) rfl ?_); refine goesL_ (some 16) rfl rfl Try.func51 (by kernel_rfl) rfl #[.int .i64 a0, .slice A1 l1.length c1] rfl (by (try simp only [List.map_toArray, List.map_cons, List.map_nil]); first | done | rfl | (simp only [List.length_drop, List.length_take]; rfl)) ?_; (with_reducible refine (impl_ValidWalkers.calls a0 _ _ l1 true _ ?side1 ?side2 A3.out).mono ?_); (case side1 => repeat (first | exact HR1.out | (with_reducible refine Kd.C_alloc ?_ _) | (with_reducible refine Kd.C_drewN ?_ _) | (with_reducible refine Kd.C_drew ?_))); (case side2 => exact HC1.out); rintro e w7 ⟨rfl, hb⟩; refine ⟨_, rfl, ?_⟩; have n0_ := Aside0.mk (below_step (by repeat (first | (with_reducible first | exact HB.out | apply below_alloc | apply pw_below_drewN | apply below_drew1) | exact HB.out)) hb); clear HB; have HB := n0_; clear n0_; (try clear hb); (try clear hb2); (try clear hk); (try clear hi)) | ((with_reducible refine gate_dst (N := 19) rfl ?_); refine Kd.R_make (Kd.int .i64) _ 2 rfl (N := 19) rfl 47 _ _ rfl a0 rfl rfl Try.underlying47 (.int .i64 0) 8 info2 rfl (by decide) (by omega) 0 (ok := fun _ => True) (okp := fun _ => True) rfl (fun _ hk => hk) trivial (of_decide_eq_true (by first | (with_reducible assumption) | assumption)) (Nat.le_trans (Nat.mul_le_mul_right _ (of_decide_eq_true (by first | (with_reducible assumption) | assumption) : a0.toNat ≤ 35184372088832)) (by omega)) (Below.refl _ _) (Nat.le_refl _) ?_; intro v734 w8 ho9 hb hg_ hnew_; clear hg_ hnew_; (first | rw [← Ny733.out] at ho9 | (simp only [Int.reduceToNat] at ho9; rw [← Ny733.out] at ho9)); have n0_ := Aside0.mk (Kd.R_lower ho9 (below_size (by repeat (first | (with_reducible first | exact HB.out | apply below_alloc | apply pw_below_drewN | apply below_drew1) | exact HB.out)))); have n1_ := Aside0.mk (below_step (by repeat (first | (with_reducible first | exact HB.out | apply below_alloc | apply pw_below_drewN | apply below_drew1) | exact HB.out)) hb); clear HB; have HO735 := n0_; have HB := n1_; clear n0_ n1_; clear hb ho9) | ((with_reducible refine gate_dst (N := 20) rfl ?_); refine Kd.R_lit (Kd.int .i64) _ 2 ?hg (N := 20) ?hd (xs := ([] : List Int)) (inner := []) (ok := fun _ => True) (okp := fun _ => True) ?hr ?hp (fun _ hk => hk) trivial (Below.refl _ _) (Nat.le_refl _) (by simp) ?_; (case hd => rfl); (case hg => rfl); (case hr => first | (go_simp; done) | (go_simp; rfl)); (case hp => exact (Reps.none _ _)); intro v737 w10 ho11 hb hg_ hnew_; clear hg_ hnew_; (first | rw [← Ny736.out] at ho11 | (simp only [Int.reduceToNat] at ho11; rw [← Ny736.out] at ho11)); have n0_ := Aside0.mk (Kd.R_elder' (by (with_reducible repeat (first | apply Kd.R_alloc | apply Kd.R_drewN | apply Kd.R_drew)); exact HO735.out) (Kd.R_base ho11) hb); have n1_ := Aside0.mk (Kd.R_lower (Kd.R_new' ho11 (Kd.R_lt (by (with_reducible repeat (first | apply Kd.R_alloc | apply Kd.R_drewN | apply Kd.R_drew)); exact HO735.out))) (below_size (by repeat (first | (with_reducible first | exact HB.out | apply below_alloc | apply pw_below_drewN | apply below_drew1) | exact HB.out)))); have n2_ := Aside0.mk (below_step (by repeat (first | (with_reducible first | exact HB.out | apply below_alloc | apply pw_below_drewN | apply below_drew1) | exact HB.out)) hb); clear HO735; clear HB; have HO735 := n0_; have HO738 := n1_; have HB := n2_; clear n0_ n1_ n2_; clear hb ho11))
        go_loopg [23] k (fun kq v23 w' => ∃ (x6_1 : List Int) (x23_1 : Int), v23 = .int .i64 x23_1 ∧ Aside0 (impl_NeverTurned.l0 kq a0 x6_1 y736 l1 (l1.length : Int) x23_1 = some (r1, r2)) ∧ Aside0 (kq ≤ k) ∧ Aside0 (Kd.R (Kd.int .i64) 2 w' w.heap.size (fun k_ => some k_ ≠ (v737 : Value).ownBlock) v734 x6_1) ∧ Aside0 (Kd.R (Kd.int .i64) 2 w' w.heap.size (fun k_ => some k_ ≠ (v734 : Value).ownBlock) v737 y736) ∧ Aside0 (Below w.heap.size w w'))
        case atStart => exact ⟨(y733), (0), (by first | rfl | (simp; done) | (simp [*]; done)), H', ⟨Nat.le_refl _⟩, ⟨by (with_reducible repeat (first | apply Kd.R_alloc | apply Kd.R_drewN | apply Kd.R_drew)); exact Kd.R_mono HO735.out (fun _ hk => hk.2)⟩, ⟨by (with_reducible repeat (first | apply Kd.R_alloc | apply Kd.R_drewN | apply Kd.R_drew)); exact Kd.R_mono HO738.out (fun _ hk => hk.2)⟩, ⟨by repeat (first | (with_reducible first | exact HB.out | apply below_alloc | apply pw_below_drewN | apply below_drew1) | exact HB.out)⟩⟩
        case round =>
          clear H'
          try clear c1
          try clear p2
          try clear c4
          try clear c5
          try clear c5b0
          try clear c5b1
          try clear c6
          try clear c6b0
          try clear c6b1
          obtain ⟨x6_1, x23_1, rfl, HA, HK1, HO_6, HO_7, HB⟩ := hrel
          cases gk with
          | zero => exact absurd HA.out (by simp [impl_NeverTurned.l0])
          | succ k1 =>
            have H := HA.out
            clear HA
            simp only [impl_NeverTurned.l0] at H
            by_cases c12 : x23_1 < (l1.length : Int)
            · rw [if_pos c12] at H
              have c12b0 : decide (x23_1 < (l1.length : Int)) = true := decide_eq_true c12
              clear c12
              by_cases c13 : 0 ≤ x23_1
              · rw [if_pos c13] at H
                have c13b0 : decide (0 ≤ x23_1) = true := decide_eq_true c13
                clear c13
                by_cases c14 : x23_1 < (l1.length : Int)
                · rw [if_pos c14] at H
                  have c14b0 : decide (x23_1 < (l1.length : Int)) = true := decide_eq_true c14
                  clear c14
                  replace H := Option.bind_eq_some_iff.mp H
                  obtain ⟨t741, A150, H⟩ := H
                  replace H : (impl_NeverTurned.l1 k1 a0 x6_1 y736 l1 (l1.length : Int) x23_1 t741 (t741.length : Int) 0) = some (r1, r2) := H
                  have A15 := Aside0.mk A150
                  clear A150
                  have H' := Aside0.mk H
                  clear H
                  have p739 : 0 ≤ (x23_1 : Int) := of_decide_eq_true (by first | (with_reducible assumption) | assumption)
                  have q739 : x23_1 < (l1.length : Int) := of_decide_eq_true (by first | (with_reducible assumption) | assumption)
                  obtain ⟨ad739, e739, hx739_0, hx739_1, hx739_2, hx739_3, hx739_4, hx739_5⟩ := at_T38 HR1.out x23_1 p739 q739
                  cases e739
                  replace hx739_0 := (HB.out.cell (World.block_lt_of_cell? w _ hx739_0)).trans hx739_0
                  replace hx739_1 := (HB.out.cell (World.block_lt_of_cell? w _ hx739_1)).trans hx739_1
                  replace hx739_2 := (HB.out.cell (World.block_lt_of_cell? w _ hx739_2)).trans hx739_2
                  replace hx739_3 := (HB.out.cell (World.block_lt_of_cell? w _ hx739_3)).trans hx739_3
                  replace hx739_4 := (HB.out.cell (World.block_lt_of_cell? w _ hx739_4)).trans hx739_4
                  replace hx739_5 := (HB.out.cell (World.block_lt_of_cell? w _ hx739_5)).trans hx739_5
                  replace p739 := eq_true p739
                  replace q739 := eq_true q739
                  go_wp2_with (first | ((with_reducible refine gate_dst (N := 9) rfl ?_); refine box_event ?hg (N := 9) ?hd (cs := #[.int .i16 0, .int .i16 0, .int .i16 0, .int .i16 0, .int .i16 0, .int .i8 0]) (t := 38) ?hr ?_; (case hd => rfl); (case hg => rfl); (case hr => first | (go_simp; done) | (go_simp; rfl)); intro gb740 hg w16 hbox hb; have n0_ := Aside0.mk (Kd.R_below (by (with_reducible repeat (first | apply Kd.R_alloc | apply Kd.R_drewN | apply Kd.R_drew)); exact HO_6.out) hb); have n1_ := Aside0.mk (Kd.R_below (by (with_reducible repeat (first | apply Kd.R_alloc | apply Kd.R_drewN | apply Kd.R_drew)); exact HO_7.out) hb); have n2_ := Aside0.mk (below_step (by repeat (first | (with_reducible first | exact HB.out | apply below_alloc | apply pw_below_drewN | apply below_drew1) | exact HB.out)) hb); have n3_ := Aside0.mk (hbox); have n4_ := Aside0.mk ((by rw [hg]; exact (below_size (by repeat (first | (with_reducible first | exact HB.out | apply below_alloc | apply pw_below_drewN | apply below_drew1) | exact HB.out))) : w.heap.size ≤ gb740)); have n5_ := Aside0.mk ((by rw [hg]; exact (below_size (by repeat (first | (with_reducible first | exact HB.out | apply below_alloc | apply pw_below_drewN | apply below_drew1) | exact HB.out))) : w.heap.size ≤ gb740)); clear HO_6; clear HO_7; clear HB; have HO_6 := n0_; have HO_7 := n1_; have HB := n2_; have BK740 := n3_; have GW740 := n4_; have GE740 := n5_; clear n0_ n1_ n2_ n3_ n4_ n5_; clear hb hbox hg; have hcz17_0 : w16.cell? ⟨gb740, 0, none⟩ = some (.int .i16 0) := (blk_cell BK740.out 0).trans rfl; have hcz17_1 : w16.cell? ⟨gb740, 1, none⟩ = some (.int .i16 0) := (blk_cell BK740.out 1).trans rfl; have hcz17_2 : w16.cell? ⟨gb740, 2, none⟩ = some (.int .i16 0) := (blk_cell BK740.out 2).trans rfl; have hcz17_3 : w16.cell? ⟨gb740, 3, none⟩ = some (.int .i16 0) := (blk_cell BK740.out 3).trans rfl; have hcz17_4 : w16.cell? ⟨gb740, 4, none⟩ = some (.int .i16 0) := (blk_cell BK740.out 4).trans rfl; have hcz17_5 : w16.cell? ⟨gb740, 5, none⟩ = some (.int .i8 0) := (blk_cell BK740.out 5).trans rfl; have hfz17_0 := blk_frozen BK740.out 0; have hfz17_1 := blk_frozen BK740.out 1; have hfz17_2 := blk_frozen BK740.out 2; have hfz17_3 := blk_frozen BK740.out 3; have hfz17_4 := blk_frozen BK740.out 4; have hfz17_5 := blk_frozen BK740.out 5) | ((with_reducible refine gate_callee (f := 104) rfl ?_); refine goesL_ (some 29) rfl rfl Try.func104 (by kernel_rfl) rfl #[.agg #[.int .i16 ((rd_T38 l1 x23_1).f0), .int .i16 ((rd_T38 l1 x23_1).f1), .int .i16 ((rd_T38 l1 x23_1).f2), .int .i16 ((rd_T38 l1 x23_1).f3), .int .i16 ((rd_T38 l1 x23_1).f4), .int .i8 ((rd_T38 l1 x23_1).f5)], .int .i64 a0] rfl (by (try simp only [List.map_toArray, List.map_cons, List.map_nil]); first | done | rfl | (simp only [List.length_drop, List.length_take]; rfl)) ?_; (with_reducible refine (impl_Walker_visits.calls k1 ((rd_T38 l1 x23_1).f0) ((rd_T38 l1 x23_1).f1) ((rd_T38 l1 x23_1).f2) ((rd_T38 l1 x23_1).f3) ((rd_T38 l1 x23_1).f4) ((rd_T38 l1 x23_1).f5) a0 t741 _ A15.out).mono ?_); rintro e w18 ⟨v742, rfl, ho0, hb⟩; refine ⟨_, rfl, ?_⟩; have n0_ := Aside0.mk (Kd.R_elder' (by (with_reducible repeat (first | apply Kd.R_alloc | apply Kd.R_drewN | apply Kd.R_drew)); exact (Kd.R_mono (Kd.R_far (p := ⟨gb740, 5, none⟩) (Kd.R_far (p := ⟨gb740, 4, none⟩) (Kd.R_far (p := ⟨gb740, 3, none⟩) (Kd.R_far (p := ⟨gb740, 2, none⟩) (Kd.R_far (p := ⟨gb740, 1, none⟩) (Kd.R_far (p := ⟨gb740, 0, none⟩) (Kd.R_types HO_6.out BK740.out (by decide)) (fun _ hk => hk.2) (.int .i16 ((rd_T38 l1 x23_1).f0))) (fun _ hk => hk.2) (.int .i16 ((rd_T38 l1 x23_1).f1))) (fun _ hk => hk.2) (.int .i16 ((rd_T38 l1 x23_1).f2))) (fun _ hk => hk.2) (.int .i16 ((rd_T38 l1 x23_1).f3))) (fun _ hk => hk.2) (.int .i16 ((rd_T38 l1 x23_1).f4))) (fun _ hk => hk.2) (.int .i8 ((rd_T38 l1 x23_1).f5))) (fun _ h_ => h_.1))) (Kd.R_base ho0) hb); have n1_ := Aside0.mk (Kd.R_elder' (by (with_reducible repeat (first | apply Kd.R_alloc | apply Kd.R_drewN | apply Kd.R_drew)); exact (Kd.R_mono (Kd.R_far (p := ⟨gb740, 5, none⟩) (Kd.R_far (p := ⟨gb740, 4, none⟩) (Kd.R_far (p := ⟨gb740, 3, none⟩) (Kd.R_far (p := ⟨gb740, 2, none⟩) (Kd.R_far (p := ⟨gb740, 1, none⟩) (Kd.R_far (p := ⟨gb740, 0, none⟩) (Kd.R_types HO_7.out BK740.out (by decide)) (fun _ hk => hk.2) (.int .i16 ((rd_T38 l1 x23_1).f0))) (fun _ hk => hk.2) (.int .i16 ((rd_T38 l1 x23_1).f1))) (fun _ hk => hk.2) (.int .i16 ((rd_T38 l1 x23_1).f2))) (fun _ hk => hk.2) (.int .i16 ((rd_T38 l1 x23_1).f3))) (fun _ hk => hk.2) (.int .i16 ((rd_T38 l1 x23_1).f4))) (fun _ hk => hk.2) (.int .i8 ((rd_T38 l1 x23_1).f5))) (fun _ h_ => h_.1))) (Kd.R_base ho0) hb); have n2_ := Aside0.mk (Kd.R_lower (Kd.R_new' (Kd.R_new' ho0 (Kd.R_lt (by (with_reducible repeat (first | apply Kd.R_alloc | apply Kd.R_drewN | apply Kd.R_drew)); exact (Kd.R_mono (Kd.R_far (p := ⟨gb740, 5, none⟩) (Kd.R_far (p := ⟨gb740, 4, none⟩) (Kd.R_far (p := ⟨gb740, 3, none⟩) (Kd.R_far (p := ⟨gb740, 2, none⟩) (Kd.R_far (p := ⟨gb740, 1, none⟩) (Kd.R_far (p := ⟨gb740, 0, none⟩) (Kd.R_types HO_6.out BK740.out (by decide)) (fun _ hk => hk.2) (.int .i16 ((rd_T38 l1 x23_1).f0))) (fun _ hk => hk.2) (.int .i16 ((rd_T38 l1 x23_1).f1))) (fun _ hk => hk.2) (.int .i16 ((rd_T38 l1 x23_1).f2))) (fun _ hk => hk.2) (.int .i16 ((rd_T38 l1 x23_1).f3))) (fun _ hk => hk.2) (.int .i16 ((rd_T38 l1 x23_1).f4))) (fun _ hk => hk.2) (.int .i8 ((rd_T38 l1 x23_1).f5))) (fun _ h_ => h_.1))))) (Kd.R_lt (by (with_reducible repeat (first | apply Kd.R_alloc | apply Kd.R_drewN | apply Kd.R_drew)); exact (Kd.R_mono (Kd.R_far (p := ⟨gb740, 5, none⟩) (Kd.R_far (p := ⟨gb740, 4, none⟩) (Kd.R_far (p := ⟨gb740, 3, none⟩) (Kd.R_far (p := ⟨gb740, 2, none⟩) (Kd.R_far (p := ⟨gb740, 1, none⟩) (Kd.R_far (p := ⟨gb740, 0, none⟩) (Kd.R_types HO_7.out BK740.out (by decide)) (fun _ hk => hk.2) (.int .i16 ((rd_T38 l1 x23_1).f0))) (fun _ hk => hk.2) (.int .i16 ((rd_T38 l1 x23_1).f1))) (fun _ hk => hk.2) (.int .i16 ((rd_T38 l1 x23_1).f2))) (fun _ hk => hk.2) (.int .i16 ((rd_T38 l1 x23_1).f3))) (fun _ hk => hk.2) (.int .i16 ((rd_T38 l1 x23_1).f4))) (fun _ hk => hk.2) (.int .i8 ((rd_T38 l1 x23_1).f5))) (fun _ h_ => h_.1))))) (below_size (by repeat (first | (with_reducible first | exact HB.out | apply below_alloc | apply pw_below_drewN | apply below_drew1 | refine below_set ?_ GE740.out) | exact HB.out)))); have n3_ := Aside0.mk (blk_below (g := gb740) (o := .cells #[.int .i16 ((rd_T38 l1 x23_1).f0), .int .i16 ((rd_T38 l1 x23_1).f1), .int .i16 ((rd_T38 l1 x23_1).f2), .int .i16 ((rd_T38 l1 x23_1).f3), .int .i16 ((rd_T38 l1 x23_1).f4), .int .i8 ((rd_T38 l1 x23_1).f5)] 38 (0, 0)) (by (with_reducible repeat (first | refine blk_drewN ?_ _ | refine blk_drew ?_ | refine blk_alloc ?_ _)); refine blk_put (cs := #[.int .i16 ((rd_T38 l1 x23_1).f0), .int .i16 ((rd_T38 l1 x23_1).f1), .int .i16 ((rd_T38 l1 x23_1).f2), .int .i16 ((rd_T38 l1 x23_1).f3), .int .i16 ((rd_T38 l1 x23_1).f4), .int .i8 0]) ?_ 5 _ rfl; (with_reducible repeat (first | refine blk_drewN ?_ _ | refine blk_drew ?_ | refine blk_alloc ?_ _)); refine blk_put (cs := #[.int .i16 ((rd_T38 l1 x23_1).f0), .int .i16 ((rd_T38 l1 x23_1).f1), .int .i16 ((rd_T38 l1 x23_1).f2), .int .i16 ((rd_T38 l1 x23_1).f3), .int .i16 0, .int .i8 0]) ?_ 4 _ rfl; (with_reducible repeat (first | refine blk_drewN ?_ _ | refine blk_drew ?_ | refine blk_alloc ?_ _)); refine blk_put (cs := #[.int .i16 ((rd_T38 l1 x23_1).f0), .int .i16 ((rd_T38 l1 x23_1).f1), .int .i16 ((rd_T38 l1 x23_1).f2), .int .i16 0, .int .i16 0, .int .i8 0]) ?_ 3 _ rfl; (with_reducible repeat (first | refine blk_drewN ?_ _ | refine blk_drew ?_ | refine blk_alloc ?_ _)); refine blk_put (cs := #[.int .i16 ((rd_T38 l1 x23_1).f0), .int .i16 ((rd_T38 l1 x23_1).f1), .int .i16 0, .int .i16 0, .int .i16 0, .int .i8 0]) ?_ 2 _ rfl; (with_reducible repeat (first | refine blk_drewN ?_ _ | refine blk_drew ?_ | refine blk_alloc ?_ _)); refine blk_put (cs := #[.int .i16 ((rd_T38 l1 x23_1).f0), .int .i16 0, .int .i16 0, .int .i16 0, .int .i16 0, .int .i8 0]) ?_ 1 _ rfl; (with_reducible repeat (first | refine blk_drewN ?_ _ | refine blk_drew ?_ | refine blk_alloc ?_ _)); refine blk_put (cs := #[.int .i16 0, .int .i16 0, .int .i16 0, .int .i16 0, .int .i16 0, .int .i8 0]) ?_ 0 _ rfl; (with_reducible repeat (first | refine blk_drewN ?_ _ | refine blk_drew ?_ | refine blk_alloc ?_ _)); exact BK740.out) hb); have n4_ := Aside0.mk (below_step (by repeat (first | (with_reducible first | exact HB.out | apply below_alloc | apply pw_below_drewN | apply below_drew1 | refine below_set ?_ GE740.out) | exact HB.out)) hb); clear HO_6; clear HO_7; clear BK740; clear HB; have HO_6 := n0_; have HO_7 := n1_; have HO743 := n2_; have BK740 := n3_; have HB := n4_; clear n0_ n1_ n2_ n3_ n4_; (try clear hb); (try clear hb2); (try clear hk); (try clear hi); (try clear ho0); obtain ⟨Ao19, co19, eo19⟩ := Kd.R_slice HO743.out; subst eo19))
                  go_loopg [31] k1 (fun kq v31 w' => ∃ (x6_2 : List Int) (x31_2 : Int), v31 = .int .i64 x31_2 ∧ Aside0 (impl_NeverTurned.l1 kq a0 x6_2 y736 l1 (l1.length : Int) x23_1 t741 (t741.length : Int) x31_2 = some (r1, r2)) ∧ Aside0 (kq ≤ k1) ∧ Aside0 (Kd.R (Kd.int .i64) 2 w' w.heap.size (fun k_ => some k_ ≠ (v737 : Value).ownBlock ∧ some k_ ≠ ((.slice Ao19 t741.length co19) : Value).ownBlock) v734 x6_2) ∧ Aside0 (Kd.R (Kd.int .i64) 2 w' w.heap.size (fun k_ => some k_ ≠ (v734 : Value).ownBlock ∧ some k_ ≠ ((.slice Ao19 t741.length co19) : Value).ownBlock) v737 y736) ∧ Aside0 (Kd.R (Kd.int .i64) 2 w' w.heap.size (fun k_ => some k_ ≠ (v734 : Value).ownBlock ∧ some k_ ≠ (v737 : Value).ownBlock) (.slice Ao19 t741.length co19) t741) ∧ Aside0 (w'.heap[gb740]? = some (.cells #[.int .i16 ((rd_T38 l1 x23_1).f0), .int .i16 ((rd_T38 l1 x23_1).f1), .int .i16 ((rd_T38 l1 x23_1).f2), .int .i16 ((rd_T38 l1 x23_1).f3), .int .i16 ((rd_T38 l1 x23_1).f4), .int .i8 ((rd_T38 l1 x23_1).f5)] 38 (0, 0))) ∧ Aside0 (Below w.heap.size w w'))
                  case atStart => exact ⟨(x6_1), (0), (by first | rfl | (simp; done) | (simp [*]; done)), H', ⟨Nat.le_refl _⟩, ⟨by (with_reducible repeat (first | apply Kd.R_alloc | apply Kd.R_drewN | apply Kd.R_drew)); exact HO_6.out⟩, ⟨by (with_reducible repeat (first | apply Kd.R_alloc | apply Kd.R_drewN | apply Kd.R_drew)); exact HO_7.out⟩, ⟨by (with_reducible repeat (first | apply Kd.R_alloc | apply Kd.R_drewN | apply Kd.R_drew)); exact Kd.R_mono HO743.out (fun _ hk => ⟨hk.1.2, hk.2⟩)⟩, ⟨by (with_reducible repeat (first | refine blk_drewN ?_ _ | refine blk_drew ?_ | refine blk_alloc ?_ _)); exact BK740.out⟩, ⟨by repeat (first | (with_reducible first | exact HB.out | apply below_alloc | apply pw_below_drewN | apply below_drew1 | refine below_set ?_ GE740.out) | exact HB.out)⟩⟩
                  case round =>
                    clear H'
                    try clear c1
                    try clear p2
                    try clear c4
                    try clear c5
                    try clear c5b0
                    try clear c5b1
                    try clear c6
                    try clear c6b0
                    try clear c6b1
                    try clear p7
                    try clear q7
                    try clear hx7
                    try clear c10
                    try clear c12
                    try clear c12b0
                    try clear c13
                    try clear c13b0
                    try clear c14
                    try clear c14b0
                    try clear hcz17_0
                    try clear hcz17_1
                    try clear hcz17_2
                    try clear hcz17_3
                    try clear hcz17_4
                    try clear hcz17_5
                    try clear hfz17_0
                    try clear hfz17_1
                    try clear hfz17_2
                    try clear hfz17_3
                    try clear hfz17_4
                    try clear hfz17_5
                    try clear hx739_0
                    try clear hx739_1
                    try clear hx739_2
                    try clear hx739_3
                    try clear hx739_4
                    try clear hx739_5
                    try clear p2
                    try clear p739
                    try clear q739
                    obtain ⟨x6_2, x31_2, rfl, HA, HK2, HO_6, HO_7, HO_29, BK740, HB⟩ := hrel
                    cases gk with
                    | zero => exact absurd HA.out (by simp [impl_NeverTurned.l1])
                    | succ k2 =>
                      have H := HA.out
                      clear HA
                      simp only [impl_NeverTurned.l1] at H
                      by_cases c20 : x31_2 < (t741.length : Int)
                      · rw [if_pos c20] at H
                        have c20b0 : decide (x31_2 < (t741.length : Int)) = true := decide_eq_true c20
                        clear c20
                        by_cases c21 : 0 ≤ x31_2
                        · rw [if_pos c21] at H
                          have c21b0 : decide (0 ≤ x31_2) = true := decide_eq_true c21
                          clear c21
                          by_cases c22 : x31_2 < (t741.length : Int)
                          · rw [if_pos c22] at H
                            have c22b0 : decide (x31_2 < (t741.length : Int)) = true := decide_eq_true c22
                            clear c22
                            by_cases c23 : x31_2 < (x6_2.length : Int)
                            · rw [if_pos c23] at H
                              have c23b0 : decide (x31_2 < (x6_2.length : Int)) = true := decide_eq_true c23
                              clear c23
                              obtain ⟨y746, hy746⟩ : ∃ y_ : List Int, y_ = (x6_2.set (x31_2 : Int).toNat (wrap64 ((rd x6_2 x31_2) + (rd t741 x31_2)))) := ⟨_, rfl⟩
                              replace H : (impl_NeverTurned.l1 k2 a0 y746 y736 l1 (l1.length : Int) x23_1 t741 (t741.length : Int) (wrap64 (x31_2 + 1))) = some (r1, r2) := by first | (rw [hy746]; with_reducible exact H) | (have H2_ := (Option.bind_some _ _).symm.trans H; rw [hy746]; with_reducible exact H2_) | (have H2_ := (Option.bind_some _ _).symm.trans H; with_reducible exact H2_) | with_reducible exact H | (rw [hy746]; exact H) | exact H
                              have Ny746 := Aside0.mk hy746
                              clear hy746
                              have H' := Aside0.mk H
                              clear H
                              have p744 : 0 ≤ (x31_2 : Int) := of_decide_eq_true (by first | (with_reducible assumption) | assumption)
                              have q744 : x31_2 < (t741.length : Int) := of_decide_eq_true (by first | (with_reducible assumption) | assumption)
                              obtain ⟨ad744, e744, hx744_0⟩ := Kd.at_int (Kd.R_reads' HO_29.out).2.2 x31_2 p744 q744
                              cases e744
                              replace p744 := eq_true p744
                              replace q744 := eq_true q744
                              obtain ⟨Ao25, co25, eo25⟩ := Kd.R_slice HO_6.out
                              subst eo25
                              have p745 : 0 ≤ (x31_2 : Int) := of_decide_eq_true (by first | (with_reducible assumption) | assumption)
                              have q745 : x31_2 < (x6_2.length : Int) := of_decide_eq_true (by first | (with_reducible assumption) | assumption)
                              obtain ⟨ad745, e745, hx745_0⟩ := Kd.at_int (Kd.R_reads' HO_6.out).2.2 x31_2 p745 q745
                              cases e745
                              replace p745 := eq_true p745
                              replace q745 := eq_true q745
                              have p24 : 0 ≤ (x31_2 : Int) := of_decide_eq_true (by first | (with_reducible assumption) | assumption)
                              have q24 : (x31_2 : Int) < ((x6_2.length : Int) : Int) := of_decide_eq_true (by first | (with_reducible assumption) | assumption)
                              obtain ⟨go24, co24, eo24, gb24, gl24, cl24, HG24⟩ := Kd.R_form HO_6.out (by omega)
                              (first | cases eo24 | (injection eo24 with ea_ en_ ec_; (first | subst ea_ | (injection ea_ with ea_; subst ea_)); subst ec_; clear en_))
                              have GB24 := Aside0.mk gb24
                              have GG24 := Aside0.mk HG24
                              clear gb24 gl24 HG24
                              (first | simp only [add_plain] at hx745_0 | skip)
                              obtain ⟨hx24_0, hf24_0⟩ := Kd.R_celln 0 HO_6.out (x31_2 : Int) p24 q24
                              replace p24 := eq_true p24
                              replace q24 := eq_true q24
                              have HP26 := Kd.R_putg HO_6.out (x31_2 : Int) (wrap64 ((rd x6_2 x31_2) + (rd t741 x31_2)))
                              go_wp2_with (first | ((with_reducible refine gate_store (t := 2) (p := 42) rfl ?_); refine store_event (t := 2) (p := 42) (v := ?vo_w27) (w1 := (wr.setCell ⟨go24, (x31_2 : Int).toNat, none⟩ (.int .i64 (wrap64 ((rd x6_2 x31_2) + (rd t741 x31_2)))))) ?hg ?ho ?hn ?hr ?_; (case ho => rfl); (case hg => rfl); (case hn => rfl); (case hr => first | (go_simp; done) | (go_simp; rfl)); intro w27 hw; have hg : wr.grownBy w27 (some go24) := (by rw [hw]; exact HP26.2); have hp_ : Kd.R (Kd.int .i64) 2 w27 w.heap.size (fun k_ => some k_ ≠ (v737 : Value).ownBlock ∧ some k_ ≠ (.slice (some ad744) t741.length co19 : Value).ownBlock) (.slice (some ⟨go24, 0, none⟩) x6_2.length co25) y746 := (by rw [hw, Ny746.out]; exact HP26.1); clear HP26; have n0_ := Aside0.mk (hp_); have n1_ := Aside0.mk (Kd.R_after (v := (.slice (some ⟨go24, 0, none⟩) x6_2.length co25)) (v1 := (.slice (some ⟨go24, 0, none⟩) x6_2.length co25)) (ok := (fun k_ => some k_ ≠ (.slice (some ad744) t741.length co19 : Value).ownBlock)) (by (with_reducible repeat (first | apply Kd.R_alloc | apply Kd.R_drewN | apply Kd.R_drew)); exact Kd.R_mono HO_7.out (fun _ hk => ⟨hk.2, hk.1⟩)) hg (.inl rfl)); have n2_ := Aside0.mk (Kd.R_after (v := (.slice (some ⟨go24, 0, none⟩) x6_2.length co25)) (v1 := (.slice (some ⟨go24, 0, none⟩) x6_2.length co25)) (ok := (fun k_ => some k_ ≠ (v737 : Value).ownBlock)) (by (with_reducible repeat (first | apply Kd.R_alloc | apply Kd.R_drewN | apply Kd.R_drew)); exact Kd.R_mono HO_29.out (fun _ hk => ⟨hk.2, hk.1⟩)) hg (.inl rfl)); have n3_ := Aside0.mk (blk_grown (g := gb740) (o := .cells #[.int .i16 ((rd_T38 l1 x23_1).f0), .int .i16 ((rd_T38 l1 x23_1).f1), .int .i16 ((rd_T38 l1 x23_1).f2), .int .i16 ((rd_T38 l1 x23_1).f3), .int .i16 ((rd_T38 l1 x23_1).f4), .int .i8 ((rd_T38 l1 x23_1).f5)] 38 (0, 0)) (by (with_reducible repeat (first | refine blk_drewN ?_ _ | refine blk_drew ?_ | refine blk_alloc ?_ _)); exact BK740.out) hg (Kd.R_ne HO_6.out BK740.out (by decide))); have n4_ := Aside0.mk ((by rw [hw]; exact below_set (HB.out) GB24.out : Below w.heap.size w w27)); clear HO_6; clear HO_7; clear HO_29; clear BK740; clear HB; have HO_6 := n0_; have HO_7 := n1_; have HO_29 := n2_; have BK740 := n3_; have HB := n4_; clear n0_ n1_ n2_ n3_ n4_; clear hg hw hp_))
                              go_roundg k2
                              case measure => have := HK1.out; have := HK2.out; omega
                              case rel => exact ⟨(y746), (wrap64 (x31_2 + 1)), (by first | rfl | (simp; done) | (simp [*]; done)), H', ⟨by have := HK1.out; have := HK2.out; omega⟩, ⟨by (with_reducible repeat (first | apply Kd.R_alloc | apply Kd.R_drewN | apply Kd.R_drew)); exact HO_6.out⟩, ⟨by (with_reducible repeat (first | apply Kd.R_alloc | apply Kd.R_drewN | apply Kd.R_drew)); exact Kd.R_mono HO_7.out (fun _ hk => ⟨hk.2, hk.1⟩)⟩, ⟨by (with_reducible repeat (first | apply Kd.R_alloc | apply Kd.R_drewN | apply Kd.R_drew)); exact Kd.R_mono HO_29.out (fun _ hk => ⟨hk.2, hk.1⟩)⟩, ⟨by (with_reducible repeat (first | refine blk_drewN ?_ _ | refine blk_drew ?_ | refine blk_alloc ?_ _)); exact BK740.out⟩, ⟨by repeat (first | (with_reducible first | exact HB.out | apply below_alloc | apply pw_below_drewN | apply below_drew1 | refine below_set ?_ GE740.out) | exact HB.out)⟩⟩
                            · rw [if_neg c23] at H
                              exact absurd H (by simp)
                          · rw [if_neg c22] at H
                            exact absurd H (by simp)
                        · rw [if_neg c21] at H
                          exact absurd H (by simp)
                      · rw [if_neg c20] at H
                        have c20b0 : decide (x31_2 < (t741.length : Int)) = false := decide_eq_false c20
                        clear c20
                        have H' := Aside0.mk H
                        clear H
                        go_wp2
                        go_roundg k2
                        case measure => have := HK1.out; have := HK2.out; omega
                        case rel => exact ⟨(x6_2), (wrap64 (x23_1 + 1)), (by first | rfl | (simp; done) | (simp [*]; done)), H', ⟨by have := HK1.out; have := HK2.out; omega⟩, ⟨by (with_reducible repeat (first | apply Kd.R_alloc | apply Kd.R_drewN | apply Kd.R_drew)); exact Kd.R_mono HO_6.out (fun _ hk => hk.1)⟩, ⟨by (with_reducible repeat (first | apply Kd.R_alloc | apply Kd.R_drewN | apply Kd.R_drew)); exact Kd.R_mono HO_7.out (fun _ hk => hk.1)⟩, ⟨by repeat (first | (with_reducible first | exact HB.out | apply below_alloc | apply pw_below_drewN | apply below_drew1 | refine below_set ?_ GE740.out) | exact HB.out)⟩⟩
                · rw [if_neg c14] at H
                  exact absurd H (by simp)
              · rw [if_neg c13] at H
                exact absurd H (by simp)
            · rw [if_neg c12] at H
              have c12b0 : decide (x23_1 < (l1.length : Int)) = false := decide_eq_false c12
              clear c12
              have H' := Aside0.mk H
              clear H
              obtain ⟨Ao28, co28, eo28⟩ := Kd.R_slice HO_6.out
              subst eo28
              go_wp2
              go_loopg [7, 47] k1 (fun kq v7 v47 w' => ∃ (x7_2 : List Int) (x47_2 : Int), v47 = .int .i64 x47_2 ∧ Aside0 (impl_NeverTurned.l2 kq x7_2 x6_1 (x6_1.length : Int) x47_2 = some (r1, r2)) ∧ Aside0 (kq ≤ k1) ∧ Aside0 (Kd.R (Kd.int .i64) 2 w' w.heap.size (fun k_ => some k_ ≠ ((.slice Ao28 x6_1.length co28) : Value).ownBlock) v7 x7_2) ∧ Aside0 (Kd.R (Kd.int .i64) 2 w' w.heap.size (fun k_ => some k_ ≠ (v7 : Value).ownBlock) (.slice Ao28 x6_1.length co28) x6_1) ∧ Aside0 (Below w.heap.size w w'))
              case atStart => exact ⟨(y736), (0), (by first | rfl | (simp; done) | (simp [*]; done)), H', ⟨Nat.le_refl _⟩, ⟨by (with_reducible repeat (first | apply Kd.R_alloc | apply Kd.R_drewN | apply Kd.R_drew)); exact HO_7.out⟩, ⟨by (with_reducible repeat (first | apply Kd.R_alloc | apply Kd.R_drewN | apply Kd.R_drew)); exact HO_6.out⟩, ⟨by repeat (first | (with_reducible first | exact HB.out | apply below_alloc | apply pw_below_drewN | apply below_drew1) | exact HB.out)⟩⟩
              case round =>
                clear H'
                try clear c1
                try clear c2
                try clear p2
                try clear q2
                try clear hx2
                try clear hf2
                try clear c4
                try clear c5
                try clear c5b0
                try clear c5b1
                try clear c6
                try clear c6b0
                try clear c6b1
                try clear p6
                try clear p7
                try clear q7
                try clear hx7
                try clear c10
                try clear c12
                try clear c12b0
                try clear c13
                try clear c13b0
                try clear c14
                try clear c14b0
                try clear c20
                try clear c20b0
                try clear c21
                try clear c21b0
                try clear c22
                try clear c22b0
                try clear c23
                try clear c23b0
                try clear p24
                try clear q24
                try clear hx24
                try clear hf24
                try clear hcz17_0
                try clear hcz17_1
                try clear hcz17_2
                try clear hcz17_3
                try clear hcz17_4
                try clear hcz17_5
                try clear hfz17_0
                try clear hfz17_1
                try clear hfz17_2
                try clear hfz17_3
                try clear hfz17_4
                try clear hfz17_5
                try clear hx24_0
                try clear hx739_0
                try clear hx739_1
                try clear hx739_2
                try clear hx739_3
                try clear hx739_4
                try clear hx739_5
                try clear hx744_0
                try clear hx745_0
                try clear p2
                try clear p24
                try clear p7
                try clear p739
                try clear p744
                try clear p745
                try clear q24
                try clear q7
                try clear q739
                try clear q744
                try clear q745
                obtain ⟨x7_2, x47_2, rfl, HA, HK2, HO_7, HO_45, HB⟩ := hrel
                cases gk with
                | zero => exact absurd HA.out (by simp [impl_NeverTurned.l2])
                | succ k2 =>
                  have H := HA.out
                  clear HA
                  simp only [impl_NeverTurned.l2] at H
                  by_cases c29 : x47_2 < (x6_1.length : Int)
                  · rw [if_pos c29] at H
                    have c29b0 : decide (x47_2 < (x6_1.length : Int)) = true := decide_eq_true c29
                    clear c29
                    by_cases c30 : 0 ≤ x47_2
                    · rw [if_pos c30] at H
                      have c30b0 : decide (0 ≤ x47_2) = true := decide_eq_true c30
                      clear c30
                      by_cases c31 : x47_2 < (x6_1.length : Int)
                      · rw [if_pos c31] at H
                        have c31b0 : decide (x47_2 < (x6_1.length : Int)) = true := decide_eq_true c31
                        clear c31
                        by_cases c32 : (rd x6_1 x47_2) = 0
                        · rw [if_pos c32] at H
                          have c32b0 : ((rd x6_1 x47_2) == 0) = true := beq_iff_eq.mpr c32
                          have c32b1 : ((rd x6_1 x47_2) != 0) = false := bne_eq_false_iff_eq.mpr c32
                          clear c32
                          by_cases c33 : x7_2.length < 17592186044416
                          · rw [if_pos c33] at H
                            have LMc33 := Aside0.mk c33
                            clear c33
                            obtain ⟨y748, hy748⟩ : ∃ y_ : List Int, y_ = (x7_2 ++ [x47_2]) := ⟨_, rfl⟩
                            replace H : (impl_NeverTurned.l2 k2 y748 x6_1 (x6_1.length : Int) (wrap64 (x47_2 + 1))) = some (r1, r2) := by first | (rw [hy748]; with_reducible exact H) | (have H2_ := (Option.bind_some _ _).symm.trans H; rw [hy748]; with_reducible exact H2_) | (have H2_ := (Option.bind_some _ _).symm.trans H; with_reducible exact H2_) | with_reducible exact H | (rw [hy748]; exact H) | exact H
                            have Ny748 := Aside0.mk hy748
                            clear hy748
                            have H' := Aside0.mk H
                            clear H
                            have p747 : 0 ≤ (x47_2 : Int) := of_decide_eq_true (by first | (with_reducible assumption) | assumption)
                            have q747 : x47_2 < (x6_1.length : Int) := of_decide_eq_true (by first | (with_reducible assumption) | assumption)
                            obtain ⟨ad747, e747, hx747_0⟩ := Kd.at_int (Kd.R_reads' HO_45.out).2.2 x47_2 p747 q747
                            cases e747
                            replace p747 := eq_true p747
                            replace q747 := eq_true q747
                            go_wp2_with (first | ((with_reducible refine gate_builtin (b := .append) (xs := #[.tmp 54, .tmp 56]) rfl ?_); at_builtin; refine Kd.R_append (Kd.int .i64) (w0 := w) w.heap.size rfl (.tmp 54) (.tmp 56) 47 2 (.int .i64 0) 8 rfl Try.underlying47 info2 rfl (by decide) (by omega) u7 x7_2 x47_2 [.int .i64 x47_2] (fun k_ => some k_ ≠ (.slice (some ad747) x6_1.length co28 : Value).ownBlock) (fun _ => False) rfl rfl ?aP (fun _ hk => hk.elim) ?aF ?aO ?aB ?aS ?aL ?_; (case aP => exact rfl); (case aB => exact (by repeat (first | (with_reducible first | exact HB.out | apply below_alloc | apply pw_below_drewN | apply below_drew1) | exact HB.out))); (case aF => exact (fun k_ hk => Kd.fresh' (Kd.R_lt (by (with_reducible repeat (first | apply Kd.R_alloc | apply Kd.R_drewN | apply Kd.R_drew)); exact HO_45.out)) k_ hk)); (case aO => exact (by (with_reducible repeat (first | apply Kd.R_alloc | apply Kd.R_drewN | apply Kd.R_drew)); exact HO_7.out)); (case aS => exact (below_size (by repeat (first | (with_reducible first | exact HB.out | apply below_alloc | apply pw_below_drewN | apply below_drew1) | exact HB.out)))); (case aL => have := LMc33.out; omega); intro v749 w34 ho hb hg hat; rw [← Ny748.out] at ho; have n0_ := Aside0.mk (Kd.R_after (ok := (fun _ => True)) (by (with_reducible repeat (first | apply Kd.R_alloc | apply Kd.R_drewN | apply Kd.R_drew)); exact Kd.R_mono HO_45.out (fun _ hk => ⟨trivial, hk⟩)) hg hat); have n1_ := Aside0.mk (hb); have n2_ := Aside0.mk (ho); clear HO_45; clear HB; clear HO_7; have HO_45 := n0_; have HB := n1_; have HO750 := n2_; clear n0_ n1_ n2_; clear ho hb hg hat))
                            go_roundg k2
                            case measure => have := HK1.out; have := HK2.out; omega
                            case rel => exact ⟨(y748), (wrap64 (x47_2 + 1)), (by first | rfl | (simp; done) | (simp [*]; done)), H', ⟨by have := HK1.out; have := HK2.out; omega⟩, ⟨by (with_reducible repeat (first | apply Kd.R_alloc | apply Kd.R_drewN | apply Kd.R_drew)); exact HO750.out⟩, ⟨by (with_reducible repeat (first | apply Kd.R_alloc | apply Kd.R_drewN | apply Kd.R_drew)); exact Kd.R_mono HO_45.out (fun _ hk => hk.2)⟩, ⟨by repeat (first | (with_reducible first | exact HB.out | apply below_alloc | apply pw_below_drewN | apply below_drew1) | exact HB.out)⟩⟩
                          · rw [if_neg c33] at H
                            exact absurd H (by simp)
                        · rw [if_neg c32] at H
                          have c32b0 : ((rd x6_1 x47_2) == 0) = false := beq_eq_false_iff_ne.mpr c32
                          have c32b1 : ((rd x6_1 x47_2) != 0) = true := bne_iff_ne.mpr c32
                          have H' := Aside0.mk H
                          clear H
                          have p747 : 0 ≤ (x47_2 : Int) := of_decide_eq_true (by first | (with_reducible assumption) | assumption)
                          have q747 : x47_2 < (x6_1.length : Int) := of_decide_eq_true (by first | (with_reducible assumption) | assumption)
                          obtain ⟨ad747, e747, hx747_0⟩ := Kd.at_int (Kd.R_reads' HO_45.out).2.2 x47_2 p747 q747
                          cases e747
                          replace p747 := eq_true p747
                          replace q747 := eq_true q747
                          go_wp2
                          go_roundg k2
                          case measure => have := HK1.out; have := HK2.out; omega
                          case rel => exact ⟨(x7_2), (wrap64 (x47_2 + 1)), (by first | rfl | (simp; done) | (simp [*]; done)), H', ⟨by have := HK1.out; have := HK2.out; omega⟩, ⟨by (with_reducible repeat (first | apply Kd.R_alloc | apply Kd.R_drewN | apply Kd.R_drew)); exact HO_7.out⟩, ⟨by (with_reducible repeat (first | apply Kd.R_alloc | apply Kd.R_drewN | apply Kd.R_drew)); exact HO_45.out⟩, ⟨by repeat (first | (with_reducible first | exact HB.out | apply below_alloc | apply pw_below_drewN | apply below_drew1) | exact HB.out)⟩⟩
                      · rw [if_neg c31] at H
                        exact absurd H (by simp)
                    · rw [if_neg c30] at H
                      exact absurd H (by simp)
                  · rw [if_neg c29] at H
                    have c29b0 : decide (x47_2 < (x6_1.length : Int)) = false := decide_eq_false c29
                    clear c29
                    simp only [Option.some.injEq, Prod.mk.injEq] at H
                    obtain ⟨rfl, rfl⟩ := H
                    go_wp2
                    go_ret2
                    exact ⟨_, by first | rfl | (simp [errW_none, errW_some] <;> rfl) | (simp [*, errW_none, errW_some] <;> rfl), by (with_reducible repeat (first | apply Kd.R_alloc | apply Kd.R_drewN | apply Kd.R_drew)); exact Kd.R_mono HO_7.out (fun _ hk => trivial), by repeat (first | (with_reducible first | exact HB.out | apply below_alloc | apply pw_below_drewN | apply below_drew1) | exact HB.out)⟩
      · rw [if_neg c6] at H
        exact absurd H (by simp)
    · rw [if_neg c5] at H
      exact absurd H (by simp)
  · replace c4 := Bool.eq_false_iff.mpr c4
    subst c4
    have H1 : (some (([] : List Int), 1)) = some (r1, r2) := by rw [if_neg (show ¬ (false = true) by decide)] at H; exact H
    clear H
    have H := H1
    clear H1
    simp only [Option.some.injEq, Prod.mk.injEq] at H
    obtain ⟨rfl, rfl⟩ := H
    go_enter Try.func55, Try.ntmps55
    go_wp2_with (first | ((with_reducible refine gate_callee (f := 51) rfl ?_); refine goesL_ (some 16) rfl rfl Try.func51 (by kernel_rfl) rfl #[.int .i64 a0, .slice A1 l1.length c1] rfl (by (try simp only [List.map_toArray, List.map_cons, List.map_nil]); first | done | rfl | (simp only [List.length_drop, List.length_take]; rfl)) ?_; (with_reducible refine (impl_ValidWalkers.calls a0 _ _ l1 false _ ?side1 ?side2 A3.out).mono ?_); (case side1 => repeat (first | exact HR1.out | (with_reducible refine Kd.C_alloc ?_ _) | (with_reducible refine Kd.C_drewN ?_ _) | (with_reducible refine Kd.C_drew ?_))); (case side2 => exact HC1.out); rintro e w35 ⟨rfl, hb⟩; refine ⟨_, rfl, ?_⟩; have n0_ := Aside0.mk (below_step (by repeat (first | (with_reducible first | exact HB.out | apply below_alloc | apply pw_below_drewN | apply below_drew1) | exact HB.out)) hb); clear HB; have HB := n0_; clear n0_; (try clear hb); (try clear hb2); (try clear hk); (try clear hi)))
    go_ret2
    exact ⟨_, by first | rfl | (simp [errW_none, errW_some] <;> rfl) | (simp [*, errW_none, errW_some] <;> rfl), by first | exact Kd.R_nil _ _ _ _ _ | exact Kd.N_nil _ _ _ _ _ | exact Kd.V_nil _ _ _ _ _ | exact Kd.Q_nil _ _ _ _ _ | exact Kd.S_nil _ _ _ _ _, by repeat (first | (with_reducible first | exact HB.out | apply below_alloc | apply pw_below_drewN | apply below_drew1) | exact HB.out)⟩
end Go.Proofs.Ytmheflciiodhdaa.P
-- Written by wip/tools/mkprint.py of this repo, over the kit's print, out of the translation; Lean checks it.
namespace Go.Proofs.Ytmheflciiodhdaa.P
open Go.RowKit Go.Proofs.YtmheflciiodhdaaW.PrintWords Go.Proofs.YtmheflciiodhdaaW.PrintLast Go.Proofs.YtmheflciiodhdaaW.PrintMore
attribute [local go_sem] max2_int min2_int max_two min_two max_three min_three max_four min_four   -- for this text's walks alone
set_option linter.unusedVariables false
set_option linter.unusedSimpArgs false
/-! ### impl_ReadRow: function 47 -/
def impl_ReadRow.l0 : Nat → ByteArray → List Int → Int → Int → Option (List Int × Int)
  | 0, _, _, _, _ => none
  | k + 1, x0, x4, x8, x9 => if x9 < x8 then (if 0 ≤ x9 then (if x9 < (x0.size : Int) then (if (bt x0 x9) < 48 then (some (([] : List Int), 5)) else (if (bt x0 x9) > 55 then (some (([] : List Int), 5)) else (if x4.length < 140737488355328 then (impl_ReadRow.l0 k x0 (x4 ++ [((bt x0 x9) - 48) % 256]) x8 (wrap64 (x9 + 1))) else (none)))) else (none)) else (none)) else ((impl_ValidRow.f x4).bind fun t691 => (if t691 = true then (some (x4, 0)) else (some (([] : List Int), 5))))
def impl_ReadRow.f (k : Nat) (a0 : ByteArray) : Option (List Int × Int) := impl_ReadRow.l0 k a0 (([] : List Int)) (a0.size : Int) 0
theorem impl_ReadRow.mono_l : ∀ k, (∀ y0 y1 y2 y3, LeO (impl_ReadRow.l0 k y0 y1 y2 y3) (impl_ReadRow.l0 (k + 1) y0 y1 y2 y3))
  | 0 => fun _ _ _ _ r h => by simp [impl_ReadRow.l0] at h
  | k + 1 => by
    have ih0 := impl_ReadRow.mono_l k
    · intro y0 y1 y2 y3
      unfold impl_ReadRow.l0
      repeat' first
      | (with_reducible exact ih0 _ _ _ _)
      | (with_reducible exact LeO.refl _)
      | (with_reducible exact LeO.none _)
      | (with_reducible refine LeO.ite ?_ ?_)
      | (with_reducible refine LeO.bind ?_ (fun _ => ?_))
      | exact ih0 _ _ _ _
      | exact LeO.none _
      | refine LeO.ite ?_ ?_
      | refine LeO.bind ?_ (fun _ => ?_)
theorem impl_ReadRow.mono : ∀ a0 k, LeO (impl_ReadRow.f k a0) (impl_ReadRow.f (k + 1) a0) := by
  intro a0 k
  have ih0 := impl_ReadRow.mono_l k
  unfold impl_ReadRow.f
  repeat' first
      | (with_reducible exact ih0 _ _ _ _)
      | (with_reducible exact LeO.refl _)
      | (with_reducible exact LeO.none _)
      | (with_reducible refine LeO.ite ?_ ?_)
      | (with_reducible refine LeO.bind ?_ (fun _ => ?_))
      | exact ih0 _ _ _ _
      | exact LeO.none _
      | refine LeO.ite ?_ ?_
      | refine LeO.bind ?_ (fun _ => ?_)
set_option maxHeartbeats 8000000 in
set_option maxRecDepth 100000 in
theorem impl_ReadRow.calls (k : Nat) (a0 : ByteArray) (r1 : List Int) (r2 : Int) (w : World) (h : impl_ReadRow.f k a0 = some (r1, r2)) :
    Calls Try.prog 47 #[.string a0] w fun e w' => ∃ v0_ : Value, e = .returned (.tuple #[v0_, .int .i64 r2]) ∧ Kd.R (Kd.int .u8) 5 w' w.heap.size (fun _ => True) v0_ r1 ∧ Below w.heap.size w w' := by
  have HB := Aside0.mk (Below.refl w.heap.size w)
  have H : (impl_ReadRow.l0 k a0 (([] : List Int)) (a0.size : Int) 0) = some (r1, r2) := h
  clear h
  obtain ⟨y685, hy685⟩ : ∃ y_ : List Int, y_ = (([] : List Int)) := ⟨_, rfl⟩
  replace H : (impl_ReadRow.l0 k a0 y685 (a0.size : Int) 0) = some (r1, r2) := by first | (rw [hy685]; with_reducible exact H) | (have H2_ := (Option.bind_some _ _).symm.trans H; rw [hy685]; with_reducible exact H2_) | (have H2_ := (Option.bind_some _ _).symm.trans H; with_reducible exact H2_) | with_reducible exact H | (rw [hy685]; exact H) | exact H
  have Ny685 := Aside0.mk hy685
  clear hy685
  have H' := Aside0.mk H
  clear H
  go_enter Try.func47, Try.ntmps47
  go_wp2_with (first | ((with_reducible refine gate_dst (N := 6) rfl ?_); refine Kd.R_lit (Kd.int .u8) _ 5 ?hg (N := 6) ?hd (xs := ([] : List Int)) (inner := []) (ok := fun _ => True) (okp := fun _ => True) ?hr ?hp (fun _ hk => hk) trivial (Below.refl _ _) (Nat.le_refl _) (by simp) ?_; (case hd => rfl); (case hg => rfl); (case hr => first | (go_simp; done) | (go_simp; rfl)); (case hp => exact (Reps.none _ _)); intro v686 w2 ho3 hb hg_ hnew_; clear hg_ hnew_; (first | rw [← Ny685.out] at ho3 | (simp only [Int.reduceToNat] at ho3; rw [← Ny685.out] at ho3)); have n0_ := Aside0.mk (Kd.R_lower ho3 (below_size (by repeat (first | (with_reducible first | exact HB.out | apply below_alloc | apply pw_below_drewN | apply below_drew1) | exact HB.out)))); have n1_ := Aside0.mk (below_step (by repeat (first | (with_reducible first | exact HB.out | apply below_alloc | apply pw_below_drewN | apply below_drew1) | exact HB.out)) hb); clear HB; have HO687 := n0_; have HB := n1_; clear n0_ n1_; clear hb ho3))
  go_loopg [4, 9] k (fun kq v4 v9 w' => ∃ (x4_1 : List Int) (x9_1 : Int), v9 = .int .i64 x9_1 ∧ Aside0 (impl_ReadRow.l0 kq a0 x4_1 (a0.size : Int) x9_1 = some (r1, r2)) ∧ Aside0 (kq ≤ k) ∧ Aside0 (Kd.R (Kd.int .u8) 5 w' w.heap.size (fun _ => True) v4 x4_1) ∧ Aside0 (Below w.heap.size w w'))
  case atStart => exact ⟨(y685), (0), (by first | rfl | (simp; done) | (simp [*]; done)), H', ⟨Nat.le_refl _⟩, ⟨by (with_reducible repeat (first | apply Kd.R_alloc | apply Kd.R_drewN | apply Kd.R_drew)); exact HO687.out⟩, ⟨by repeat (first | (with_reducible first | exact HB.out | apply below_alloc | apply pw_below_drewN | apply below_drew1) | exact HB.out)⟩⟩
  case round =>
    clear H'
    try clear p2
    obtain ⟨x4_1, x9_1, rfl, HA, HK1, HO_4, HB⟩ := hrel
    cases gk with
    | zero => exact absurd HA.out (by simp [impl_ReadRow.l0])
    | succ k1 =>
      have H := HA.out
      clear HA
      simp only [impl_ReadRow.l0] at H
      by_cases c4 : x9_1 < (a0.size : Int)
      · rw [if_pos c4] at H
        have c4b0 : decide (x9_1 < (a0.size : Int)) = true := decide_eq_true c4
        clear c4
        by_cases c5 : 0 ≤ x9_1
        · rw [if_pos c5] at H
          have c5b0 : decide (0 ≤ x9_1) = true := decide_eq_true c5
          clear c5
          by_cases c6 : x9_1 < (a0.size : Int)
          · rw [if_pos c6] at H
            have c6b0 : decide (x9_1 < (a0.size : Int)) = true := decide_eq_true c6
            clear c6
            by_cases c8 : (bt a0 x9_1) < 48
            · rw [if_pos c8] at H
              have c8b0 : decide ((bt a0 x9_1) < 48) = true := decide_eq_true c8
              clear c8
              simp only [Option.some.injEq, Prod.mk.injEq] at H
              obtain ⟨rfl, rfl⟩ := H
              have p7 : 0 ≤ (x9_1 : Int) := of_decide_eq_true (by first | (with_reducible assumption) | assumption)
              have q7 : x9_1 < (a0.size : Int) := of_decide_eq_true (by first | (with_reducible assumption) | assumption)
              have hx7 := bt_at a0 x9_1
              replace p7 := eq_true p7
              replace q7 := eq_true q7
              go_wp2
              go_ret2
              exact ⟨_, by first | rfl | (simp [errW_none, errW_some] <;> rfl) | (simp [*, errW_none, errW_some] <;> rfl), by first | exact Kd.R_nil _ _ _ _ _ | exact Kd.N_nil _ _ _ _ _ | exact Kd.V_nil _ _ _ _ _ | exact Kd.Q_nil _ _ _ _ _ | exact Kd.S_nil _ _ _ _ _, by repeat (first | (with_reducible first | exact HB.out | apply below_alloc | apply pw_below_drewN | apply below_drew1) | exact HB.out)⟩
            · rw [if_neg c8] at H
              have c8b0 : decide ((bt a0 x9_1) < 48) = false := decide_eq_false c8
              clear c8
              by_cases c10 : (bt a0 x9_1) > 55
              · rw [if_pos c10] at H
                have c10b0 : decide (55 < (bt a0 x9_1)) = true := decide_eq_true c10
                clear c10
                simp only [Option.some.injEq, Prod.mk.injEq] at H
                obtain ⟨rfl, rfl⟩ := H
                have p7 : 0 ≤ (x9_1 : Int) := of_decide_eq_true (by first | (with_reducible assumption) | assumption)
                have q7 : x9_1 < (a0.size : Int) := of_decide_eq_true (by first | (with_reducible assumption) | assumption)
                have hx7 := bt_at a0 x9_1
                replace p7 := eq_true p7
                replace q7 := eq_true q7
                have p9 : 0 ≤ (x9_1 : Int) := of_decide_eq_true (by first | (with_reducible assumption) | assumption)
                have q9 : x9_1 < (a0.size : Int) := of_decide_eq_true (by first | (with_reducible assumption) | assumption)
                have hx9 := bt_at a0 x9_1
                replace p9 := eq_true p9
                replace q9 := eq_true q9
                go_wp2
                go_ret2
                exact ⟨_, by first | rfl | (simp [errW_none, errW_some] <;> rfl) | (simp [*, errW_none, errW_some] <;> rfl), by first | exact Kd.R_nil _ _ _ _ _ | exact Kd.N_nil _ _ _ _ _ | exact Kd.V_nil _ _ _ _ _ | exact Kd.Q_nil _ _ _ _ _ | exact Kd.S_nil _ _ _ _ _, by repeat (first | (with_reducible first | exact HB.out | apply below_alloc | apply pw_below_drewN | apply below_drew1) | exact HB.out)⟩
              · rw [if_neg c10] at H
                have c10b0 : decide (55 < (bt a0 x9_1)) = false := decide_eq_false c10
                clear c10
                by_cases c12 : x4_1.length < 140737488355328
                · rw [if_pos c12] at H
                  have LMc12 := Aside0.mk c12
                  clear c12
                  obtain ⟨y688, hy688⟩ : ∃ y_ : List Int, y_ = (x4_1 ++ [((bt a0 x9_1) - 48) % 256]) := ⟨_, rfl⟩
                  replace H : (impl_ReadRow.l0 k1 a0 y688 (a0.size : Int) (wrap64 (x9_1 + 1))) = some (r1, r2) := by first | (rw [hy688]; with_reducible exact H) | (have H2_ := (Option.bind_some _ _).symm.trans H; rw [hy688]; with_reducible exact H2_) | (have H2_ := (Option.bind_some _ _).symm.trans H; with_reducible exact H2_) | with_reducible exact H | (rw [hy688]; exact H) | exact H
                  have Ny688 := Aside0.mk hy688
                  clear hy688
                  have H' := Aside0.mk H
                  clear H
                  have p7 : 0 ≤ (x9_1 : Int) := of_decide_eq_true (by first | (with_reducible assumption) | assumption)
                  have q7 : x9_1 < (a0.size : Int) := of_decide_eq_true (by first | (with_reducible assumption) | assumption)
                  have hx7 := bt_at a0 x9_1
                  replace p7 := eq_true p7
                  replace q7 := eq_true q7
                  have p9 : 0 ≤ (x9_1 : Int) := of_decide_eq_true (by first | (with_reducible assumption) | assumption)
                  have q9 : x9_1 < (a0.size : Int) := of_decide_eq_true (by first | (with_reducible assumption) | assumption)
                  have hx9 := bt_at a0 x9_1
                  replace p9 := eq_true p9
                  replace q9 := eq_true q9
                  have p11 : 0 ≤ (x9_1 : Int) := of_decide_eq_true (by first | (with_reducible assumption) | assumption)
                  have q11 : x9_1 < (a0.size : Int) := of_decide_eq_true (by first | (with_reducible assumption) | assumption)
                  have hx11 := bt_at a0 x9_1
                  replace p11 := eq_true p11
                  replace q11 := eq_true q11
                  go_wp2_with (first | ((with_reducible refine gate_builtin (b := .append) (xs := #[.tmp 22, .tmp 27]) rfl ?_); at_builtin; refine Kd.R_append (Kd.int .u8) (w0 := w) w.heap.size rfl (.tmp 22) (.tmp 27) 24 5 (.int .u8 0) 1 rfl Try.underlying24 info5 rfl (by decide) (by omega) u4 x4_1 (((bt a0 x9_1) - 48) % 256) [.int .u8 (((bt a0 x9_1) - 48) % 256)] (fun _ => True) (fun _ => False) rfl rfl ?aP (fun _ hk => hk.elim) ?aF ?aO ?aB ?aS ?aL ?_; (case aP => exact rfl); (case aB => exact (by repeat (first | (with_reducible first | exact HB.out | apply below_alloc | apply pw_below_drewN | apply below_drew1) | exact HB.out))); (case aF => exact (fun _ _ => trivial)); (case aO => exact (by (with_reducible repeat (first | apply Kd.R_alloc | apply Kd.R_drewN | apply Kd.R_drew)); exact HO_4.out)); (case aS => exact (below_size (by repeat (first | (with_reducible first | exact HB.out | apply below_alloc | apply pw_below_drewN | apply below_drew1) | exact HB.out)))); (case aL => have := LMc12.out; omega); intro v689 w13 ho hb hg hat; rw [← Ny688.out] at ho; have n0_ := Aside0.mk (hb); have n1_ := Aside0.mk (ho); clear HB; clear HO_4; have HB := n0_; have HO690 := n1_; clear n0_ n1_; clear ho hb hg hat))
                  go_roundg k1
                  case measure => have := HK1.out; omega
                  case rel => exact ⟨(y688), (wrap64 (x9_1 + 1)), (by first | rfl | (simp; done) | (simp [*]; done)), H', ⟨by have := HK1.out; omega⟩, ⟨by (with_reducible repeat (first | apply Kd.R_alloc | apply Kd.R_drewN | apply Kd.R_drew)); exact HO690.out⟩, ⟨by repeat (first | (with_reducible first | exact HB.out | apply below_alloc | apply pw_below_drewN | apply below_drew1) | exact HB.out)⟩⟩
                · rw [if_neg c12] at H
                  exact absurd H (by simp)
          · rw [if_neg c6] at H
            exact absurd H (by simp)
        · rw [if_neg c5] at H
          exact absurd H (by simp)
      · rw [if_neg c4] at H
        have c4b0 : decide (x9_1 < (a0.size : Int)) = false := decide_eq_false c4
        clear c4
        replace H := Option.bind_eq_some_iff.mp H
        obtain ⟨t691, A140, H⟩ := H
        replace H : (if t691 = true then (some (x4_1, 0)) else (some (([] : List Int), 5))) = some (r1, r2) := H
        have A14 := Aside0.mk A140
        clear A140
        by_cases c15 : t691 = true
        · subst c15
          have H1 : (some (x4_1, 0)) = some (r1, r2) := by rw [if_pos rfl] at H; exact H
          clear H
          have H := H1
          clear H1
          simp only [Option.some.injEq, Prod.mk.injEq] at H
          obtain ⟨rfl, rfl⟩ := H
          obtain ⟨Ao16, co16, eo16⟩ := Kd.R_slice HO_4.out
          subst eo16
          go_wp2_with (first | ((with_reducible refine gate_callee (f := 50) rfl ?_); refine goesL_ (some 31) rfl rfl Try.func50 (by kernel_rfl) rfl #[.slice Ao16 x4_1.length co16] rfl (by (try simp only [List.map_toArray, List.map_cons, List.map_nil]); first | done | rfl | (simp only [List.length_drop, List.length_take]; rfl)) ?_; (with_reducible refine (impl_ValidRow.calls _ _ x4_1 true _ ?side1 ?side2 A14.out).mono ?_); (case side1 => repeat (first | exact (Kd.R_reads' HO_4.out).2.2 | (with_reducible refine Kd.C_alloc ?_ _) | (with_reducible refine Kd.C_drewN ?_ _) | (with_reducible refine Kd.C_drew ?_))); (case side2 => exact (Kd.R_reads' HO_4.out).2.1); rintro e w' ⟨rfl, ⟨nd, rfl⟩⟩; refine ⟨_, rfl, ?_⟩))
          go_ret2
          exact ⟨_, by first | rfl | (simp [errW_none, errW_some] <;> rfl) | (simp [*, errW_none, errW_some] <;> rfl), by (with_reducible repeat (first | apply Kd.R_alloc | apply Kd.R_drewN | apply Kd.R_drew)); exact HO_4.out, by repeat (first | (with_reducible first | exact HB.out | apply below_alloc | apply pw_below_drewN | apply below_drew1) | exact HB.out)⟩
        · replace c15 := Bool.eq_false_iff.mpr c15
          subst c15
          have H1 : (some (([] : List Int), 5)) = some (r1, r2) := by rw [if_neg (show ¬ (false = true) by decide)] at H; exact H
          clear H
          have H := H1
          clear H1
          simp only [Option.some.injEq, Prod.mk.injEq] at H
          obtain ⟨rfl, rfl⟩ := H
          obtain ⟨Ao17, co17, eo17⟩ := Kd.R_slice HO_4.out
          subst eo17
          go_wp2_with (first | ((with_reducible refine gate_callee (f := 50) rfl ?_); refine goesL_ (some 31) rfl rfl Try.func50 (by kernel_rfl) rfl #[.slice Ao17 x4_1.length co17] rfl (by (try simp only [List.map_toArray, List.map_cons, List.map_nil]); first | done | rfl | (simp only [List.length_drop, List.length_take]; rfl)) ?_; (with_reducible refine (impl_ValidRow.calls _ _ x4_1 false _ ?side1 ?side2 A14.out).mono ?_); (case side1 => repeat (first | exact (Kd.R_reads' HO_4.out).2.2 | (with_reducible refine Kd.C_alloc ?_ _) | (with_reducible refine Kd.C_drewN ?_ _) | (with_reducible refine Kd.C_drew ?_))); (case side2 => exact (Kd.R_reads' HO_4.out).2.1); rintro e w' ⟨rfl, ⟨nd, rfl⟩⟩; refine ⟨_, rfl, ?_⟩))
          go_ret2
          exact ⟨_, by first | rfl | (simp [errW_none, errW_some] <;> rfl) | (simp [*, errW_none, errW_some] <;> rfl), by first | exact Kd.R_nil _ _ _ _ _ | exact Kd.N_nil _ _ _ _ _ | exact Kd.V_nil _ _ _ _ _ | exact Kd.Q_nil _ _ _ _ _ | exact Kd.S_nil _ _ _ _ _, by repeat (first | (with_reducible first | exact HB.out | apply below_alloc | apply pw_below_drewN | apply below_drew1) | exact HB.out)⟩
end Go.Proofs.Ytmheflciiodhdaa.P
-- Written by wip/tools/mkprint.py of this repo, over the kit's print, out of the translation; Lean checks it.
namespace Go.Proofs.Ytmheflciiodhdaa.P
open Go.RowKit Go.Proofs.YtmheflciiodhdaaW.PrintWords Go.Proofs.YtmheflciiodhdaaW.PrintLast Go.Proofs.YtmheflciiodhdaaW.PrintMore
attribute [local go_sem] max2_int min2_int max_two min_two max_three min_three max_four min_four   -- for this text's walks alone
set_option linter.unusedVariables false
set_option linter.unusedSimpArgs false
/-! ### impl_RowText: function 48 -/
def impl_RowText.l0 : Nat → List Int → List Int → Int → Int → Option (ByteArray)
  | 0, _, _, _, _ => none
  | k + 1, x3, x10, x11, x12 => if x12 < x11 then (if 0 ≤ x12 then (if x12 < (x10.length : Int) then (if x3.length < 140737488355328 then (impl_RowText.l0 k (x3 ++ [(48 + (rd x10 x12)) % 256]) x10 x11 (wrap64 (x12 + 1))) else (none)) else (none)) else (none)) else (some (strOfNums x3))
def impl_RowText.f (k : Nat) (l0 : List Int) : Option (ByteArray) := (impl_ValidRow.f l0).bind fun t692 => (if t692 = true then (impl_RowText.l0 k (([] : List Int)) l0 (l0.length : Int) 0) else (some (⟨#[]⟩ : ByteArray)))
theorem impl_RowText.mono_l : ∀ k, (∀ y0 y1 y2 y3, LeO (impl_RowText.l0 k y0 y1 y2 y3) (impl_RowText.l0 (k + 1) y0 y1 y2 y3))
  | 0 => fun _ _ _ _ r h => by simp [impl_RowText.l0] at h
  | k + 1 => by
    have ih0 := impl_RowText.mono_l k
    · intro y0 y1 y2 y3
      unfold impl_RowText.l0
      repeat' first
      | (with_reducible exact ih0 _ _ _ _)
      | (with_reducible exact LeO.refl _)
      | (with_reducible exact LeO.none _)
      | (with_reducible refine LeO.ite ?_ ?_)
      | (with_reducible refine LeO.bind ?_ (fun _ => ?_))
      | exact ih0 _ _ _ _
      | exact LeO.none _
      | refine LeO.ite ?_ ?_
      | refine LeO.bind ?_ (fun _ => ?_)
theorem impl_RowText.mono : ∀ a0 k, LeO (impl_RowText.f k a0) (impl_RowText.f (k + 1) a0) := by
  intro a0 k
  have ih0 := impl_RowText.mono_l k
  unfold impl_RowText.f
  repeat' first
      | (with_reducible exact ih0 _ _ _ _)
      | (with_reducible exact LeO.refl _)
      | (with_reducible exact LeO.none _)
      | (with_reducible refine LeO.ite ?_ ?_)
      | (with_reducible refine LeO.bind ?_ (fun _ => ?_))
      | exact ih0 _ _ _ _
      | exact LeO.none _
      | refine LeO.ite ?_ ?_
      | refine LeO.bind ?_ (fun _ => ?_)
set_option maxHeartbeats 8000000 in
set_option maxRecDepth 100000 in
theorem impl_RowText.calls (k : Nat) (A0 : Option Addr) (c0 : Nat) (l0 : List Int) (r : ByteArray) (w : World) (hr0 : Kd.C (Kd.int .u8) w A0 l0.length l0) (hc0 : l0.length ≤ c0) (h : impl_RowText.f k l0 = some r) :
    Calls Try.prog 48 #[.slice A0 l0.length c0] w fun e w' => e = .returned (.string r) ∧ Below w.heap.size w w' := by
  have HR0 := Aside0.mk hr0
  have HC0 := Aside0.mk hc0
  clear hr0 hc0
  have HB := Aside0.mk (Below.refl w.heap.size w)
  have H : ((impl_ValidRow.f l0).bind fun t692 => (if t692 = true then (impl_RowText.l0 k (([] : List Int)) l0 (l0.length : Int) 0) else (some (⟨#[]⟩ : ByteArray)))) = some r := h
  clear h
  replace H := Option.bind_eq_some_iff.mp H
  obtain ⟨t692, A20, H⟩ := H
  replace H : (if t692 = true then (impl_RowText.l0 k (([] : List Int)) l0 (l0.length : Int) 0) else (some (⟨#[]⟩ : ByteArray))) = some r := H
  have A2 := Aside0.mk A20
  clear A20
  by_cases c3 : t692 = true
  · subst c3
    have H1 : (impl_RowText.l0 k (([] : List Int)) l0 (l0.length : Int) 0) = some r := by rw [if_pos rfl] at H; exact H
    clear H
    have H := H1
    clear H1
    obtain ⟨y693, hy693⟩ : ∃ y_ : List Int, y_ = (([] : List Int)) := ⟨_, rfl⟩
    replace H : (impl_RowText.l0 k y693 l0 (l0.length : Int) 0) = some r := by first | (rw [hy693]; with_reducible exact H) | (have H2_ := (Option.bind_some _ _).symm.trans H; rw [hy693]; with_reducible exact H2_) | (have H2_ := (Option.bind_some _ _).symm.trans H; with_reducible exact H2_) | with_reducible exact H | (rw [hy693]; exact H) | exact H
    have Ny693 := Aside0.mk hy693
    clear hy693
    have H' := Aside0.mk H
    clear H
    go_enter Try.func48, Try.ntmps48
    go_wp2_with (first | ((with_reducible refine gate_callee (f := 50) rfl ?_); refine goesL_ (some 7) rfl rfl Try.func50 (by kernel_rfl) rfl #[.slice A0 l0.length c0] rfl (by (try simp only [List.map_toArray, List.map_cons, List.map_nil]); first | done | rfl | (simp only [List.length_drop, List.length_take]; rfl)) ?_; (with_reducible refine (impl_ValidRow.calls _ _ l0 true _ ?side1 ?side2 A2.out).mono ?_); (case side1 => repeat (first | exact HR0.out | (with_reducible refine Kd.C_alloc ?_ _) | (with_reducible refine Kd.C_drewN ?_ _) | (with_reducible refine Kd.C_drew ?_))); (case side2 => exact HC0.out); rintro e w' ⟨rfl, ⟨nd, rfl⟩⟩; refine ⟨_, rfl, ?_⟩) | ((with_reducible refine gate_dst (N := 9) rfl ?_); refine Kd.R_lit (Kd.int .u8) _ 5 ?hg (N := 9) ?hd (xs := ([] : List Int)) (inner := []) (ok := fun _ => True) (okp := fun _ => True) ?hr ?hp (fun _ hk => hk) trivial (Below.refl _ _) (Nat.le_refl _) (by simp) ?_; (case hd => rfl); (case hg => rfl); (case hr => first | (go_simp; done) | (go_simp; rfl)); (case hp => exact (Reps.none _ _)); intro v694 w4 ho5 hb hg_ hnew_; clear hg_ hnew_; (first | rw [← Ny693.out] at ho5 | (simp only [Int.reduceToNat] at ho5; rw [← Ny693.out] at ho5)); have n0_ := Aside0.mk (Kd.R_lower ho5 (below_size (by repeat (first | (with_reducible first | exact HB.out | apply below_alloc | apply pw_below_drewN | apply below_drew1) | exact HB.out)))); have n1_ := Aside0.mk (below_step (by repeat (first | (with_reducible first | exact HB.out | apply below_alloc | apply pw_below_drewN | apply below_drew1) | exact HB.out)) hb); clear HB; have HO695 := n0_; have HB := n1_; clear n0_ n1_; clear hb ho5))
    go_loopg [3, 12] k (fun kq v3 v12 w' => ∃ (x3_1 : List Int) (x12_1 : Int), v12 = .int .i64 x12_1 ∧ Aside0 (impl_RowText.l0 kq x3_1 l0 (l0.length : Int) x12_1 = some r) ∧ Aside0 (kq ≤ k) ∧ Aside0 (Kd.R (Kd.int .u8) 5 w' w.heap.size (fun _ => True) v3 x3_1) ∧ Aside0 (Below w.heap.size w w'))
    case atStart => exact ⟨(y693), (0), (by first | rfl | (simp; done) | (simp [*]; done)), H', ⟨Nat.le_refl _⟩, ⟨by (with_reducible repeat (first | apply Kd.R_alloc | apply Kd.R_drewN | apply Kd.R_drew)); exact HO695.out⟩, ⟨by repeat (first | (with_reducible first | exact HB.out | apply below_alloc | apply pw_below_drewN | apply below_drew1) | exact HB.out)⟩⟩
    case round =>
      clear H'
      try clear p2
      try clear c3
      try clear c4
      try clear c5
      obtain ⟨x3_1, x12_1, rfl, HA, HK1, HO_3, HB⟩ := hrel
      cases gk with
      | zero => exact absurd HA.out (by simp [impl_RowText.l0])
      | succ k1 =>
        have H := HA.out
        clear HA
        simp only [impl_RowText.l0] at H
        by_cases c6 : x12_1 < (l0.length : Int)
        · rw [if_pos c6] at H
          have c6b0 : decide (x12_1 < (l0.length : Int)) = true := decide_eq_true c6
          clear c6
          by_cases c7 : 0 ≤ x12_1
          · rw [if_pos c7] at H
            have c7b0 : decide (0 ≤ x12_1) = true := decide_eq_true c7
            clear c7
            by_cases c8 : x12_1 < (l0.length : Int)
            · rw [if_pos c8] at H
              have c8b0 : decide (x12_1 < (l0.length : Int)) = true := decide_eq_true c8
              clear c8
              by_cases c9 : x3_1.length < 140737488355328
              · rw [if_pos c9] at H
                have LMc9 := Aside0.mk c9
                clear c9
                obtain ⟨y697, hy697⟩ : ∃ y_ : List Int, y_ = (x3_1 ++ [(48 + (rd l0 x12_1)) % 256]) := ⟨_, rfl⟩
                replace H : (impl_RowText.l0 k1 y697 l0 (l0.length : Int) (wrap64 (x12_1 + 1))) = some r := by first | (rw [hy697]; with_reducible exact H) | (have H2_ := (Option.bind_some _ _).symm.trans H; rw [hy697]; with_reducible exact H2_) | (have H2_ := (Option.bind_some _ _).symm.trans H; with_reducible exact H2_) | with_reducible exact H | (rw [hy697]; exact H) | exact H
                have Ny697 := Aside0.mk hy697
                clear hy697
                have H' := Aside0.mk H
                clear H
                have p696 : 0 ≤ (x12_1 : Int) := of_decide_eq_true (by first | (with_reducible assumption) | assumption)
                have q696 : x12_1 < (l0.length : Int) := of_decide_eq_true (by first | (with_reducible assumption) | assumption)
                obtain ⟨ad696, e696, hx696_0⟩ := Kd.at_int HR0.out x12_1 p696 q696
                cases e696
                replace hx696_0 := (HB.out.cell (World.block_lt_of_cell? w _ hx696_0)).trans hx696_0
                replace p696 := eq_true p696
                replace q696 := eq_true q696
                go_wp2_with (first | ((with_reducible refine gate_builtin (b := .append) (xs := #[.tmp 16, .tmp 19]) rfl ?_); at_builtin; refine Kd.R_append (Kd.int .u8) (w0 := w) w.heap.size rfl (.tmp 16) (.tmp 19) 22 5 (.int .u8 0) 1 rfl Try.underlying22 info5 rfl (by decide) (by omega) u3 x3_1 ((48 + (rd l0 x12_1)) % 256) [.int .u8 ((48 + (rd l0 x12_1)) % 256)] (fun _ => True) (fun _ => False) rfl rfl ?aP (fun _ hk => hk.elim) ?aF ?aO ?aB ?aS ?aL ?_; (case aP => exact rfl); (case aB => exact (by repeat (first | (with_reducible first | exact HB.out | apply below_alloc | apply pw_below_drewN | apply below_drew1) | exact HB.out))); (case aF => exact (fun _ _ => trivial)); (case aO => exact (by (with_reducible repeat (first | apply Kd.R_alloc | apply Kd.R_drewN | apply Kd.R_drew)); exact HO_3.out)); (case aS => exact (below_size (by repeat (first | (with_reducible first | exact HB.out | apply below_alloc | apply pw_below_drewN | apply below_drew1) | exact HB.out)))); (case aL => have := LMc9.out; omega); intro v698 w10 ho hb hg hat; rw [← Ny697.out] at ho; have n0_ := Aside0.mk (hb); have n1_ := Aside0.mk (ho); clear HB; clear HO_3; have HB := n0_; have HO699 := n1_; clear n0_ n1_; clear ho hb hg hat))
                go_roundg k1
                case measure => have := HK1.out; omega
                case rel => exact ⟨(y697), (wrap64 (x12_1 + 1)), (by first | rfl | (simp; done) | (simp [*]; done)), H', ⟨by have := HK1.out; omega⟩, ⟨by (with_reducible repeat (first | apply Kd.R_alloc | apply Kd.R_drewN | apply Kd.R_drew)); exact HO699.out⟩, ⟨by repeat (first | (with_reducible first | exact HB.out | apply below_alloc | apply pw_below_drewN | apply below_drew1) | exact HB.out)⟩⟩
              · rw [if_neg c9] at H
                exact absurd H (by simp)
            · rw [if_neg c8] at H
              exact absurd H (by simp)
          · rw [if_neg c7] at H
            exact absurd H (by simp)
        · rw [if_neg c6] at H
          have c6b0 : decide (x12_1 < (l0.length : Int)) = false := decide_eq_false c6
          clear c6
          obtain rfl := Option.some.inj H
          have hcv11 := own_string (P := Try.prog) Try.underlying22 Try.underlying5 Try.underlying9 (Kd.own_of_R HO_3.out)
          go_wp2
          go_ret
          exact ⟨by first | rfl | (simp [errW_none, errW_some] <;> rfl) | (simp [*, errW_none, errW_some] <;> rfl), by repeat (first | (with_reducible first | exact HB.out | apply below_alloc | apply pw_below_drewN | apply below_drew1) | exact HB.out)⟩
  · replace c3 := Bool.eq_false_iff.mpr c3
    subst c3
    have H1 : (some (⟨#[]⟩ : ByteArray)) = some r := by rw [if_neg (show ¬ (false = true) by decide)] at H; exact H
    clear H
    have H := H1
    clear H1
    obtain rfl := Option.some.inj H
    go_enter Try.func48, Try.ntmps48
    go_wp2_with (first | ((with_reducible refine gate_callee (f := 50) rfl ?_); refine goesL_ (some 7) rfl rfl Try.func50 (by kernel_rfl) rfl #[.slice A0 l0.length c0] rfl (by (try simp only [List.map_toArray, List.map_cons, List.map_nil]); first | done | rfl | (simp only [List.length_drop, List.length_take]; rfl)) ?_; (with_reducible refine (impl_ValidRow.calls _ _ l0 false _ ?side1 ?side2 A2.out).mono ?_); (case side1 => repeat (first | exact HR0.out | (with_reducible refine Kd.C_alloc ?_ _) | (with_reducible refine Kd.C_drewN ?_ _) | (with_reducible refine Kd.C_drew ?_))); (case side2 => exact HC0.out); rintro e w' ⟨rfl, ⟨nd, rfl⟩⟩; refine ⟨_, rfl, ?_⟩))
    go_ret
    exact ⟨by first | rfl | (simp [errW_none, errW_some] <;> rfl) | (simp [*, errW_none, errW_some] <;> rfl), by repeat (first | (with_reducible first | exact HB.out | apply below_alloc | apply pw_below_drewN | apply below_drew1) | exact HB.out)⟩
end Go.Proofs.Ytmheflciiodhdaa.P
-- Written by wip/tools/mkprint.py of this repo, over the kit's print, out of the translation; Lean checks it.
namespace Go.Proofs.Ytmheflciiodhdaa.P
open Go.RowKit Go.Proofs.YtmheflciiodhdaaW.PrintWords Go.Proofs.YtmheflciiodhdaaW.PrintLast Go.Proofs.YtmheflciiodhdaaW.PrintMore
attribute [local go_sem] max2_int min2_int max_two min_two max_three min_three max_four min_four   -- for this text's walks alone
set_option linter.unusedVariables false
set_option linter.unusedSimpArgs false
/-! ### impl_SameRow: function 49 -/
def impl_SameRow.f (k : Nat) (l0 : List Int) (l1 : List Int) : Option (Bool) := (impl_Row_uint8_73.f k l0 l1).bind fun t700 => (some t700)
theorem impl_SameRow.mono : ∀ a0 a1 k, LeO (impl_SameRow.f k a0 a1) (impl_SameRow.f (k + 1) a0 a1) := by
  intro a0 a1 k
  unfold impl_SameRow.f
  repeat' first
      | (with_reducible exact impl_Row_uint8_73.mono _ _ _)
      | (with_reducible exact LeO.refl _)
      | (with_reducible exact LeO.none _)
      | (with_reducible refine LeO.ite ?_ ?_)
      | (with_reducible refine LeO.bind ?_ (fun _ => ?_))
      | exact impl_Row_uint8_73.mono _ _ _
      | exact LeO.none _
      | refine LeO.ite ?_ ?_
      | refine LeO.bind ?_ (fun _ => ?_)
set_option maxHeartbeats 8000000 in
set_option maxRecDepth 100000 in
theorem impl_SameRow.calls (k : Nat) (A0 : Option Addr) (c0 : Nat) (l0 : List Int) (A1 : Option Addr) (c1 : Nat) (l1 : List Int) (r : Bool) (w : World) (hr0 : Kd.C (Kd.int .u8) w A0 l0.length l0) (hc0 : l0.length ≤ c0) (hr1 : Kd.C (Kd.int .u8) w A1 l1.length l1) (hc1 : l1.length ≤ c1) (h : impl_SameRow.f k l0 l1 = some r) :
    Calls Try.prog 49 #[.slice A0 l0.length c0, .slice A1 l1.length c1] w fun e w' => e = .returned (.bool r) ∧ Drawn0 w w' := by
  have HR0 := Aside0.mk hr0
  have HC0 := Aside0.mk hc0
  clear hr0 hc0
  have HR1 := Aside0.mk hr1
  have HC1 := Aside0.mk hc1
  clear hr1 hc1
  have H : ((impl_Row_uint8_73.f k l0 l1).bind fun t700 => (some t700)) = some r := h
  clear h
  replace H := Option.bind_eq_some_iff.mp H
  obtain ⟨t700, A30, H⟩ := H
  replace H : (some t700) = some r := H
  have A3 := Aside0.mk A30
  clear A30
  obtain rfl := Option.some.inj H
  go_enter Try.func49, Try.ntmps49
  go_wp2_with (first | ((with_reducible refine gate_callee (f := 73) rfl ?_); refine goesL_ (some 7) rfl rfl Try.func73 (by kernel_rfl) rfl #[.slice A0 l0.length c0, .slice A1 l1.length c1] rfl (by (try simp only [List.map_toArray, List.map_cons, List.map_nil]); first | done | rfl | (simp only [List.length_drop, List.length_take]; rfl)) ?_; (with_reducible refine (impl_Row_uint8_73.calls k _ _ l0 _ _ l1 t700 _ ?side1 ?side2 ?side3 ?side4 A3.out).mono ?_); (case side1 => repeat (first | exact HR0.out | (with_reducible refine Kd.C_alloc ?_ _) | (with_reducible refine Kd.C_drewN ?_ _) | (with_reducible refine Kd.C_drew ?_))); (case side2 => exact HC0.out); (case side3 => repeat (first | exact HR1.out | (with_reducible refine Kd.C_alloc ?_ _) | (with_reducible refine Kd.C_drewN ?_ _) | (with_reducible refine Kd.C_drew ?_))); (case side4 => exact HC1.out); rintro e w' ⟨rfl, ⟨nd, rfl⟩⟩; refine ⟨_, rfl, ?_⟩))
  go_ret
  exact ⟨by first | rfl | (simp; done) | (simp [*]; done), by repeat (first | exact Drawn0.refl _ | apply Drawn0.step)⟩
end Go.Proofs.Ytmheflciiodhdaa.P
-- Written by wip/tools/mkprint.py of this repo, over the kit's print, out of the translation; Lean checks it.
namespace Go.Proofs.Ytmheflciiodhdaa.P
open Go.RowKit Go.Proofs.YtmheflciiodhdaaW.PrintWords Go.Proofs.YtmheflciiodhdaaW.PrintLast Go.Proofs.YtmheflciiodhdaaW.PrintMore
attribute [local go_sem] max2_int min2_int max_two min_two max_three min_three max_four min_four   -- for this text's walks alone
set_option linter.unusedVariables false
set_option linter.unusedSimpArgs false
/-! ### impl_Row_uint8_100: given -/
def impl_Row_uint8_100.f (l0 : List Int) : Option (List Int) := if l0.length < 140737488355328 then some l0 else none
set_option maxHeartbeats 1000000 in
theorem impl_Row_uint8_100.calls (A0 : Option Addr) (c0 : Nat) (l0 : List Int) (r : List Int) (w : World) (hr0 : Kd.C (Kd.int .u8) w A0 l0.length l0) (hc0 : l0.length ≤ c0) (h : impl_Row_uint8_100.f l0 = some r) :
    Calls Try.prog 100 #[.slice A0 l0.length c0] w fun e w' => ∃ v0_ : Value, e = .returned (v0_) ∧ Kd.R (Kd.int .u8) 5 w' w.heap.size (fun _ => True) v0_ r ∧ Below w.heap.size w w' := by
  have hl : l0.length < 140737488355328 := by unfold impl_Row_uint8_100.f at h; split at h <;> simp_all
  obtain rfl : l0 = r := by unfold impl_Row_uint8_100.f at h; rw [if_pos hl] at h; exact Option.some.inj h
  have HR := Aside0.mk hr0
  have HL := Aside0.mk hl
  clear hr0 h hl
  cases A0 with
  | none =>
    have h0 : l0 = [] := by
      have := HR.out.2.2
      cases l0 with
      | nil => rfl
      | cons x r => obtain ⟨ad, e, _⟩ := this (by simp); cases e
    subst h0
    have hnil := fun (W : World) => Lib.run_eql_slice_nil (P := Try.prog) W 24 5 none 0 c0 0 0 Try.underlying24
    go_enter Try.func100, Try.ntmps100
    go_wp2
    go_ret
    exact ⟨_, rfl, Kd.R_nil _ _ _ _ _, Below.refl _ _⟩
  | some ad =>
    have hnil := fun (W : World) => Lib.run_eql_slice_nil (P := Try.prog) W 24 5 (some ad) l0.length c0 0 0 Try.underlying24
    go_enter Try.func100, Try.ntmps100
    go_wp2_with (first
      | ((with_reducible refine gate_dst (N := 5) rfl ?_); refine Kd.R_lit (Kd.int .u8) (w0 := w) _ 5 rfl (N := 5) rfl (xs := ([] : List Int)) (inner := []) (ok := fun _ => True) (okp := fun _ => True) ?hr (Reps.none _ _) (fun _ hk => hk) trivial (Below.refl _ _) (Nat.le_refl _) (by simp) ?_; (case hr => first | (go_simp; done) | (go_simp; rfl)); intro v5 w5 ho5 hb5 hg5 _; have HO5 := Aside0.mk ho5; have HB5 := Aside0.mk hb5; clear ho5 hb5 hg5)
      | (at_builtin; refine Kd.R_append_rows (Kd.int .u8) (w0 := w) w.heap.size rfl (.tmp 5) (.tmp 6) 24 5 (.int .u8 0) 1 rfl Try.underlying24 info5 rfl (by decide) (by omega) _ _ l0 _ _ _ (fun _ => True) (fun _ => False) rfl rfl HO5.out (Kd.C_below HR.out HB5.out) (fun _ _ h => h) (fun _ h => h.elim) (fun _ _ => trivial) HB5.out HB5.out.size (by have := HL.out; simp; omega) ?_; intro v7 w7 ho7 hb7 _ _; have HO7 := Aside0.mk ho7; have HB7 := Aside0.mk hb7; clear ho7 hb7 HO5 HB5))
    go_ret
    exact ⟨_, rfl, by simpa using HO7.out, HB7.out⟩
end Go.Proofs.Ytmheflciiodhdaa.P
