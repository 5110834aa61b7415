/- Part 3 of the proof of the law FnExactMissedWalks: contracts of the functions it reaches. -/
import Derived.Test.YtmheflciiodhdaaF0
import Derived.Test.YtmheflciiodhdaaJFnExactMissedWalksx1
import Derived.Test.YtmheflciiodhdaaJFnExactMissedWalksx2
-- Written by wip/tools/mkprint.py of this repo, over the kit's print, out of the translation; Lean checks it.
namespace Go.Proofs.Ytmheflciiodhdaa.P
open Go.RowKit Go.Proofs.YtmheflciiodhdaaW.PrintWords Go.Proofs.YtmheflciiodhdaaW.PrintLast Go.Proofs.YtmheflciiodhdaaW.PrintMore
attribute [local go_sem] max2_int min2_int max_two min_two max_three min_three max_four min_four   -- for this text's walks alone
set_option linter.unusedVariables false
set_option linter.unusedSimpArgs false
/-! ### spec_MissedWalks: given -/
def spec_missDays (x : S38) (i : Int) : Nat → Int → List S40 → Option (List S40)
  | 0, _, acc => some acc
  | n + 1, d, acc => (spec_l05On.f x.f0 x.f1 x.f2 x.f3 x.f4 x.f5 d).bind fun b => spec_missDays x i n (d + 1) (if b = true then acc ++ [⟨i, d⟩] else acc)
def spec_missAll (k : Nat) (row : List Int) (day : Int) (seen : List Int) : List S38 → Int → List S40 → Option (List S40)
  | [], _, acc => some acc
  | x :: r, i, acc => (spec_l05Turned.f k row x.f0 x.f1 x.f2 x.f3 x.f4 (IntKind.i8.wrap (-x.f5)) 1).bind fun wo => (spec_SameRow.f k wo seen).bind fun q => (if q = true then spec_missDays x i (day + 1).toNat 0 acc else some acc).bind fun acc' => spec_missAll k row day seen r (i + 1) acc'
def spec_MissedWalks.g (k : Nat) (l0 : List Int) (l1 : List S38) (a2 : Int) (l3 : List Int) (q : Bool) : Option (List S40 × Int) :=
  (spec_l05Row.f k l0 l1 q).bind fun c => if c = 0 then (if 0 ≤ a2 ∧ a2 ≤ 400 ∧ l1.length ≤ 8 then (spec_l05Whole.f k l0 l1 a2).bind fun row => (spec_missAll k row a2 l3 l1 0 []).bind fun r => some (r, 0) else none) else some ([], c)
def spec_MissedWalks.f (k : Nat) (l0 : List Int) (l1 : List S38) (a2 : Int) (l3 : List Int) : Option (List S40 × Int) :=
  (spec_l05Ok.f k l3).bind fun ok => if ok = true then (if (l3.length : Int) = (l0.length : Int) then (spec_l05Day.f a2).bind fun dy => (if dy = true then spec_MissedWalks.g k l0 l1 a2 l3 (decide (a2 ≤ 400)) else spec_MissedWalks.g k l0 l1 a2 l3 false) else some ([], 1)) else some ([], 1)
theorem spec_missAll_mono {row : List Int} {day : Int} {seen : List Int} (k : Nat) : ∀ (r : List S38) (i : Int) (acc : List S40), LeO (spec_missAll k row day seen r i acc) (spec_missAll (k + 1) row day seen r i acc)
  | [], _, _ => LeO.refl _
  | _ :: r, _, _ => LeO.bind (spec_l05Turned.mono _ _ _ _ _ _ _ _ k) (fun _ => LeO.bind (spec_SameRow.mono _ _ k) (fun _ => LeO.bind (LeO.refl _) (fun _ => spec_missAll_mono k r _ _)))
theorem spec_MissedWalks.mono_g : ∀ a0 a1 a2 a3 q k, LeO (spec_MissedWalks.g k a0 a1 a2 a3 q) (spec_MissedWalks.g (k + 1) a0 a1 a2 a3 q) := fun _ _ _ _ _ k => LeO.bind (spec_l05Row.mono _ _ _ k) (fun _ => LeO.ite (LeO.ite (LeO.bind (spec_l05Whole.mono _ _ _ k) (fun _ => LeO.bind (spec_missAll_mono k _ _ _) (fun _ => LeO.refl _))) (LeO.none _)) (LeO.refl _))
theorem spec_MissedWalks.mono : ∀ a0 a1 a2 a3 k, LeO (spec_MissedWalks.f k a0 a1 a2 a3) (spec_MissedWalks.f (k + 1) a0 a1 a2 a3) := fun _ _ _ _ k => LeO.bind (spec_l05Ok.mono _ k) (fun _ => LeO.ite (LeO.ite (LeO.bind (LeO.refl _) (fun _ => LeO.ite (spec_MissedWalks.mono_g _ _ _ _ _ k) (spec_MissedWalks.mono_g _ _ _ _ _ k))) (LeO.refl _)) (LeO.refl _))
set_option maxHeartbeats 8000000 in
set_option maxRecDepth 100000 in
theorem spec_MissedWalks.calls (k : Nat) (A0 : Option Addr) (c0 : Nat) (l0 : List Int) (A1 : Option Addr) (c1 : Nat) (l1 : List S38) (a2 : Int) (A3 : Option Addr) (c3 : Nat) (l3 : List Int) (r1 : List S40) (r2 : Int) (w : World) (hr0 : Kd.C (Kd.int .u8) w A0 l0.length l0) (hc0 : l0.length ≤ c0) (hr1 : Kd.C k38 w A1 l1.length l1) (hc1 : l1.length ≤ c1) (hr3 : Kd.C (Kd.int .u8) w A3 l3.length l3) (hc3 : l3.length ≤ c3) (h : spec_MissedWalks.f k l0 l1 a2 l3 = some (r1, r2)) :
    Calls Try.prog 14 #[.slice A0 l0.length c0, .slice A1 l1.length c1, .int .i64 a2, .slice A3 l3.length c3] w fun e w' => ∃ v0_ : Value, e = .returned (.tuple #[v0_, .int .i64 r2]) ∧ Kd.R k40 40 w' w.heap.size (fun _ => True) v0_ r1 ∧ Below w.heap.size w w' := by
  have HR0 := Aside0.mk hr0
  have HR1 := Aside0.mk hr1
  have HR3 := Aside0.mk hr3
  have HC0 := Aside0.mk hc0
  have HC1 := Aside0.mk hc1
  have HC3 := Aside0.mk hc3
  clear hr0 hr1 hr3 hc0 hc1 hc3
  have hu := Try.underlying38
  obtain ⟨ok, hok, h1⟩ := Option.bind_eq_some_iff.mp h
  have HOK := Aside0.mk hok
  clear h hok
  cases ok with
  | false =>
    rw [if_neg (by decide)] at h1
    simp only [Option.some.injEq, Prod.mk.injEq] at h1
    obtain ⟨rfl, rfl⟩ := h1
    go_enter Try.func14, Try.ntmps14
    go_wp2_with (first
      | ((with_reducible refine gate_dst (N := 16) rfl ?_); refine Kd.R_lit k40 (w0 := w) w.heap.size 40 rfl (N := 16) rfl (xs := ([] : List S40)) (inner := []) (ok := fun _ => True) (okp := fun _ => True) ?hr (Reps.none _ _) (fun _ hk => hk) trivial (Below.refl _ _) (Nat.le_refl _) (by simp) ?_; (case hr => first | (go_simp; done) | (go_simp; rfl)); intro v16 w16 ho16 hb16 _ _; (have HO := Aside0.mk ho16); (have HB := Aside0.mk hb16); clear ho16 hb16)
      | (go_at_call 75; refine (spec_l05Ok.calls k A3 c3 l3 _ _ (Kd.C_below HR3.out HB.out) HC3.out HOK.out).mono ?_; rintro e w2 ⟨rfl, ⟨nd, rfl⟩⟩))
    go_ret2
    exact ⟨_, rfl, Kd.R_drewN HO.out _, pw_below_drewN HB.out _⟩
  | true =>
    rw [if_pos rfl] at h1
    by_cases hl : (l3.length : Int) = (l0.length : Int)
    case neg =>
      rw [if_neg hl] at h1
      simp only [Option.some.injEq, Prod.mk.injEq] at h1
      obtain ⟨rfl, rfl⟩ := h1
      have hn : ((l3.length : Int) != (l0.length : Int)) = true := bne_iff_ne.mpr hl
      clear hl
      go_enter Try.func14, Try.ntmps14
      go_wp2_with (first
        | ((with_reducible refine gate_dst (N := 16) rfl ?_); refine Kd.R_lit k40 (w0 := w) w.heap.size 40 rfl (N := 16) rfl (xs := ([] : List S40)) (inner := []) (ok := fun _ => True) (okp := fun _ => True) ?hr (Reps.none _ _) (fun _ hk => hk) trivial (Below.refl _ _) (Nat.le_refl _) (by simp) ?_; (case hr => first | (go_simp; done) | (go_simp; rfl)); intro v16 w16 ho16 hb16 _ _; (have HO := Aside0.mk ho16); (have HB := Aside0.mk hb16); clear ho16 hb16)
        | (go_at_call 75; refine (spec_l05Ok.calls k A3 c3 l3 _ _ (Kd.C_below HR3.out HB.out) HC3.out HOK.out).mono ?_; rintro e w2 ⟨rfl, ⟨nd, rfl⟩⟩))
      go_ret2
      exact ⟨_, rfl, Kd.R_drewN HO.out _, pw_below_drewN HB.out _⟩
    rw [if_pos hl] at h1
    have hn : ((l3.length : Int) != (l0.length : Int)) = false := bne_eq_false_iff_eq.mpr hl
    obtain ⟨dy, hdy, h2⟩ := Option.bind_eq_some_iff.mp h1
    have HDY := Aside0.mk hdy
    clear h1 hdy hl
    have H : ∃ q, (if dy = true then q = decide (a2 ≤ 400) else q = false) ∧ spec_MissedWalks.g k l0 l1 a2 l3 q = some (r1, r2) := by
      cases dy
      · exact ⟨false, by simp, by simpa using h2⟩
      · exact ⟨decide (a2 ≤ 400), by simp, by simpa using h2⟩
    clear h2
    obtain ⟨q, hq, hg⟩ := H
    obtain ⟨c, hc, h3⟩ := Option.bind_eq_some_iff.mp hg
    have HC := Aside0.mk hc
    clear hg hc
    by_cases hcode : c = 0
    case neg =>
      rw [if_neg hcode] at h3
      simp only [Option.some.injEq, Prod.mk.injEq] at h3
      obtain ⟨rfl, rfl⟩ := h3
      have hne : (c != 0) = true := bne_iff_ne.mpr hcode
      clear hcode
      cases dy
      all_goals
        simp only [if_true, Bool.false_eq_true, if_false] at hq
        subst hq
        go_enter Try.func14, Try.ntmps14
        go_wp2_with (first
          | ((with_reducible refine gate_dst (N := 16) rfl ?_); refine Kd.R_lit k40 (w0 := w) w.heap.size 40 rfl (N := 16) rfl (xs := ([] : List S40)) (inner := []) (ok := fun _ => True) (okp := fun _ => True) ?hr (Reps.none _ _) (fun _ hk => hk) trivial (Below.refl _ _) (Nat.le_refl _) (by simp) ?_; (case hr => first | (go_simp; done) | (go_simp; rfl)); intro v16 w16 ho16 hb16 _ _; (have HO := Aside0.mk ho16); (have HB := Aside0.mk hb16); clear ho16 hb16)
          | (go_at_call 75; refine (spec_l05Ok.calls k A3 c3 l3 _ _ (Kd.C_below HR3.out HB.out) HC3.out HOK.out).mono ?_; rintro e w2 ⟨rfl, ⟨nd, rfl⟩⟩)
          | (go_at_call 65; refine (spec_l05Day.calls _ _ _ HDY.out).mono ?_; rintro e w3 ⟨rfl, ⟨nd3, rfl⟩⟩; (have HO3 := Aside0.mk (Kd.R_drewN (Kd.R_drewN HO.out nd) nd3)); (have HB3 := Aside0.mk (pw_below_drewN (pw_below_drewN HB.out nd) nd3)); clear HO HB; (try simp only [World.drewN_drewN] at HO3 HB3))
          | (go_at_call 64; refine (spec_l05Row.calls k A0 c0 l0 A1 c1 l1 _ _ _ (Kd.C_below HR0.out HB3.out) HC0.out (Kd.C_below HR1.out HB3.out) HC1.out HC.out).mono ?_; rintro e w4 ⟨rfl, hb4⟩; (have HO4 := Aside0.mk (Kd.R_below HO3.out hb4)); (have HB4 := Aside0.mk (below_step HB3.out hb4)); clear hb4 HO3 HB3))
        go_ret2
        exact ⟨_, rfl, HO4.out, HB4.out⟩
    subst hcode
    rw [if_pos rfl] at h3
    by_cases hday : 0 ≤ a2 ∧ a2 ≤ 400 ∧ l1.length ≤ 8
    case neg => rw [if_neg hday] at h3; simp at h3
    rw [if_pos hday] at h3
    have HD := Aside0.mk hday
    clear hday
    obtain ⟨row, hrow, h4⟩ := Option.bind_eq_some_iff.mp h3
    obtain ⟨r, hf, h5⟩ := Option.bind_eq_some_iff.mp h4
    simp only [Option.some.injEq, Prod.mk.injEq] at h5
    obtain ⟨rfl, rfl⟩ := h5
    have HROW := Aside0.mk hrow
    have HF := Aside0.mk hf
    clear h3 h4 hrow hf
    have hmain : Calls Try.prog 14 #[.slice A0 l0.length c0, .slice A1 l1.length c1, .int .i64 a2, .slice A3 l3.length c3] w fun e w' => ∃ v0_ : Value, e = .returned (.tuple #[v0_, .int .i64 0]) ∧ Kd.R k40 40 w' w.heap.size (fun _ => True) v0_ r ∧ Below w.heap.size w w' := by
      cases dy
      all_goals
        simp only [if_true, Bool.false_eq_true, if_false] at hq
        subst hq
        go_enter Try.func14, Try.ntmps14
        go_wp2_with (first
          | ((with_reducible refine gate_dst (N := 16) rfl ?_); refine Kd.R_lit k40 (w0 := w) w.heap.size 40 rfl (N := 16) rfl (xs := ([] : List S40)) (inner := []) (ok := fun _ => True) (okp := fun _ => True) ?hr (Reps.none _ _) (fun _ hk => hk) trivial (Below.refl _ _) (Nat.le_refl _) (by simp) ?_; (case hr => first | (go_simp; done) | (go_simp; rfl)); intro v16 w16 ho16 hb16 _ _; (have HO := Aside0.mk ho16); (have HB := Aside0.mk hb16); clear ho16 hb16)
          | (go_at_call 75; refine (spec_l05Ok.calls k A3 c3 l3 _ _ (Kd.C_below HR3.out HB.out) HC3.out HOK.out).mono ?_; rintro e w2 ⟨rfl, ⟨nd, rfl⟩⟩)
          | (go_at_call 65; refine (spec_l05Day.calls _ _ _ HDY.out).mono ?_; rintro e w3 ⟨rfl, ⟨nd3, rfl⟩⟩; (have HO3 := Aside0.mk (Kd.R_drewN (Kd.R_drewN HO.out nd) nd3)); (have HB3 := Aside0.mk (pw_below_drewN (pw_below_drewN HB.out nd) nd3)); clear HO HB; (try simp only [World.drewN_drewN] at HO3 HB3))
          | (go_at_call 64; refine (spec_l05Row.calls k A0 c0 l0 A1 c1 l1 _ _ _ (Kd.C_below HR0.out HB3.out) HC0.out (Kd.C_below HR1.out HB3.out) HC1.out HC.out).mono ?_; rintro e w4 ⟨rfl, hb4⟩; (have HO4 := Aside0.mk (Kd.R_below HO3.out hb4)); (have HB4 := Aside0.mk (below_step HB3.out hb4)); clear hb4 HO3 HB3)
          | (go_at_call 66; refine (spec_l05Whole.calls k A0 c0 l0 A1 c1 l1 a2 row _ (Kd.C_below HR0.out HB4.out) HC0.out (Kd.C_below HR1.out HB4.out) HC1.out HROW.out).mono ?_; rintro e w5 ⟨v5, rfl, ho5, hb5⟩; (have HO := Aside0.mk (Kd.R_below HO4.out hb5)); (have HW := Aside0.mk (Kd.R_lower ho5 HB4.out.size)); (have HB := Aside0.mk (below_step HB4.out hb5)); clear ho5 hb5 HO4 HB4))
        obtain ⟨A4, c4, rfl⟩ := Kd.R_slice HW.out
        go_loopw [10, 13, 14, 15] (fun v10 v13 v14 v15 w' => ∃ (i : Nat) (acc : List S40), i ≤ l1.length ∧ v13 = .int .i64 i ∧ Aside0 (spec_missAll k row a2 l3 (l1.drop i) i acc = some r) ∧ Aside0 (acc.length ≤ 1000 * i) ∧ Aside0 (Kd.R k40 40 w' w.heap.size (fun _ => True) v10 acc) ∧ Aside0 (Kd.R (Kd.int .u8) 5 w' w.heap.size (fun _ => True) (.slice A4 row.length c4) row) ∧ Aside0 (Below w.heap.size w w')) (fun _ v13 _ _ _ => l1.length - (intOf v13).toNat)
        case atStart => exact ⟨0, [], Nat.zero_le _, rfl, ⟨by simpa using HF.out⟩, ⟨by simp⟩, HO, HW, HB⟩
        case round =>
          clear HO HW HB HF hn
          obtain ⟨i, acc, hi, rfl, HF, HLA, HO, HW, HB⟩ := hrel
          have hsz := HB.out.size
          have hd0 := HD.out.1
          have h8 := HD.out.2.2
          by_cases hlt : i < l1.length
          · have hF1 := HF.out
            rw [drop_rdW hlt] at hF1
            obtain ⟨wo, hwo, hF3⟩ := Option.bind_eq_some_iff.mp hF1
            obtain ⟨q, hq, hF4⟩ := Option.bind_eq_some_iff.mp hF3
            obtain ⟨acc', hacc, hF5⟩ := Option.bind_eq_some_iff.mp hF4
            have HWO := Aside0.mk hwo
            have HQ := Aside0.mk hq
            have HACC := Aside0.mk hacc
            have HF' := Aside0.mk hF5
            clear hwo hq hacc hF1 hF3 hF4 hF5 HF
            obtain ⟨ad, rfl, h0, h1, h2, h3, h4, h5⟩ := at_T38 (Kd.C_below HR1.out HB.out) (i : Int) (by omega) (by omega)
            simp only [Int.toNat_natCast] at h0 h1 h2 h3 h4 h5
            have HX := Aside0.mk (show rd_T38 l1 (i : Int) = rd_T38 l1 (i : Int) from rfl)
            generalize hXe : rd_T38 l1 (i : Int) = X at HX h0 h1 h2 h3 h4 h5 HWO HACC
            have HXE := Aside0.mk hXe
            clear hXe HX
            have q1 := eq_true (show (i : Int) < (l1.length : Int) by omega)
            have q0 := eq_true (show (0 : Int) ≤ (i : Int) by omega)
            obtain ⟨wp0, rfl⟩ : ∃ wo : World, wo = wr := ⟨_, rfl⟩
            have BK6 : ∀ w26 : World, ∀ gb : Nat, w26.heap[gb]? = some (.cells #[.int .i16 0, .int .i16 0, .int .i16 0, .int .i16 0, .int .i16 0, .int .i8 0] 38 (0, 0)) → Aside0 (Kd.R k40 40 w26 w.heap.size (fun _ => True) u10 acc) → Aside0 (Kd.R (Kd.int .u8) 5 w26 w.heap.size (fun _ => True) (.slice A4 row.length c4) row) → Below w.heap.size w w26 → w.heap.size ≤ gb →
                Aside0 (Kd.R k40 40 ((((((w26.setCell ⟨gb, 0, none⟩ (.int .i16 X.f0)).setCell ⟨gb, 1, none⟩ (.int .i16 X.f1)).setCell ⟨gb, 2, none⟩ (.int .i16 X.f2)).setCell ⟨gb, 3, none⟩ (.int .i16 X.f3)).setCell ⟨gb, 4, none⟩ (.int .i16 X.f4)).setCell ⟨gb, 5, none⟩ (.int .i8 X.f5)) w.heap.size (fun _ => True) u10 acc) ∧ Aside0 (Kd.R (Kd.int .u8) 5 ((((((w26.setCell ⟨gb, 0, none⟩ (.int .i16 X.f0)).setCell ⟨gb, 1, none⟩ (.int .i16 X.f1)).setCell ⟨gb, 2, none⟩ (.int .i16 X.f2)).setCell ⟨gb, 3, none⟩ (.int .i16 X.f3)).setCell ⟨gb, 4, none⟩ (.int .i16 X.f4)).setCell ⟨gb, 5, none⟩ (.int .i8 X.f5)) w.heap.size (fun _ => True) (.slice A4 row.length c4) row) ∧ Aside0 (Below w.heap.size w ((((((w26.setCell ⟨gb, 0, none⟩ (.int .i16 X.f0)).setCell ⟨gb, 1, none⟩ (.int .i16 X.f1)).setCell ⟨gb, 2, none⟩ (.int .i16 X.f2)).setCell ⟨gb, 3, none⟩ (.int .i16 X.f3)).setCell ⟨gb, 4, none⟩ (.int .i16 X.f4)).setCell ⟨gb, 5, none⟩ (.int .i8 X.f5))) ∧ Aside0 (((((((w26.setCell ⟨gb, 0, none⟩ (.int .i16 X.f0)).setCell ⟨gb, 1, none⟩ (.int .i16 X.f1)).setCell ⟨gb, 2, none⟩ (.int .i16 X.f2)).setCell ⟨gb, 3, none⟩ (.int .i16 X.f3)).setCell ⟨gb, 4, none⟩ (.int .i16 X.f4)).setCell ⟨gb, 5, none⟩ (.int .i8 X.f5)).heap[gb]? = some (.cells #[.int .i16 X.f0, .int .i16 X.f1, .int .i16 X.f2, .int .i16 X.f3, .int .i16 X.f4, .int .i8 X.f5] 38 (0, 0))) := by
              intro w26 gb hbk HO2 HW2 hb2 hg
              have BK := Aside0.mk hbk
              refine ⟨⟨Kd.R_mono (Kd.R_far (p := ⟨gb, 5, none⟩) (Kd.R_far (p := ⟨gb, 4, none⟩) (Kd.R_far (p := ⟨gb, 3, none⟩) (Kd.R_far (p := ⟨gb, 2, none⟩) (Kd.R_far (p := ⟨gb, 1, none⟩) (Kd.R_far (p := ⟨gb, 0, none⟩) (Kd.R_types HO2.out BK.out (by decide)) (fun _ hk => hk.2) _) (fun _ hk => hk.2) _) (fun _ hk => hk.2) _) (fun _ hk => hk.2) _) (fun _ hk => hk.2) _) (fun _ hk => hk.2) _) (fun _ _ => trivial)⟩, ⟨Kd.R_mono (Kd.R_far (p := ⟨gb, 5, none⟩) (Kd.R_far (p := ⟨gb, 4, none⟩) (Kd.R_far (p := ⟨gb, 3, none⟩) (Kd.R_far (p := ⟨gb, 2, none⟩) (Kd.R_far (p := ⟨gb, 1, none⟩) (Kd.R_far (p := ⟨gb, 0, none⟩) (Kd.R_types HW2.out BK.out (by decide)) (fun _ hk => hk.2) _) (fun _ hk => hk.2) _) (fun _ hk => hk.2) _) (fun _ hk => hk.2) _) (fun _ hk => hk.2) _) (fun _ hk => hk.2) _) (fun _ _ => trivial)⟩, ⟨below_set (below_set (below_set (below_set (below_set (below_set hb2 hg) hg) hg) hg) hg) hg⟩, ⟨blk_put (blk_put (blk_put (blk_put (blk_put (blk_put BK.out 0 (.int .i16 X.f0) rfl) 1 (.int .i16 X.f1) rfl) 2 (.int .i16 X.f2) rfl) 3 (.int .i16 X.f3) rfl) 4 (.int .i16 X.f4) rfl) 5 (.int .i8 X.f5) rfl⟩⟩
            have FK := Aside0.mk BK6
            clear BK6
            cases q with
            | false =>
              obtain rfl := Option.some.inj (show some acc = some acc' by have := HACC.out; simpa using this)
              clear HACC
              go_wp2_with (first
                | ((with_reducible refine gate_dst (N := 14) rfl ?_); refine box_event ?hg (N := 14) ?hd (cs := #[.int .i16 0, .int .i16 0, .int .i16 0, .int .i16 0, .int .i16 0, .int .i8 0]) (t := 38) ?hr ?_; (case hd => rfl); (case hg => rfl); (case hr => first | (go_simp; done) | (go_simp; rfl)); intro gb hg w26 hbox hb; (have HO2 := Aside0.mk (Kd.R_below HO.out hb)); (have HW2 := Aside0.mk (Kd.R_below HW.out hb)); (have HB2 := Aside0.mk (below_step HB.out hb)); (have GW := Aside0.mk (show w.heap.size ≤ gb by omega)); (have BK := Aside0.mk hbox); clear hb hg HO HW HB; (have hcz0 : w26.cell? ⟨gb, 0, none⟩ = some (.int .i16 0) := (blk_cell BK.out 0).trans rfl); (have hcz1 : w26.cell? ⟨gb, 1, none⟩ = some (.int .i16 0) := (blk_cell BK.out 1).trans rfl); (have hcz2 : w26.cell? ⟨gb, 2, none⟩ = some (.int .i16 0) := (blk_cell BK.out 2).trans rfl); (have hcz3 : w26.cell? ⟨gb, 3, none⟩ = some (.int .i16 0) := (blk_cell BK.out 3).trans rfl); (have hcz4 : w26.cell? ⟨gb, 4, none⟩ = some (.int .i16 0) := (blk_cell BK.out 4).trans rfl); (have hcz5 : w26.cell? ⟨gb, 5, none⟩ = some (.int .i8 0) := (blk_cell BK.out 5).trans rfl); (have hfz0 := blk_frozen BK.out 0; have hfz1 := blk_frozen BK.out 1; have hfz2 := blk_frozen BK.out 2; have hfz3 := blk_frozen BK.out 3; have hfz4 := blk_frozen BK.out 4; have hfz5 := blk_frozen BK.out 5); clear hbox)
                | ((with_reducible refine gate_store (t := 38) (p := 14) rfl ?_); refine store_event (t := 38) (p := 14) (v := ?vo) (w1 := ((((((w26.setCell ⟨gb, 0, none⟩ (.int .i16 X.f0)).setCell ⟨gb, 1, none⟩ (.int .i16 X.f1)).setCell ⟨gb, 2, none⟩ (.int .i16 X.f2)).setCell ⟨gb, 3, none⟩ (.int .i16 X.f3)).setCell ⟨gb, 4, none⟩ (.int .i16 X.f4)).setCell ⟨gb, 5, none⟩ (.int .i8 X.f5))) ?hg ?ho ?hn ?hr ?_; (case ho => rfl); (case hg => rfl); (case hn => rfl); (case hr => first | (go_simp; done) | (go_simp; rfl)); intro w27 hw27; obtain ⟨HO6, HW6, HB6, BK6⟩ := FK.out w26 gb BK.out HO2 HW2 HB2.out GW.out; (rw [← hw27] at HO6 HW6 HB6 BK6); clear hw27 HO2 HW2 HB2 FK BK hcz0 hcz1 hcz2 hcz3 hcz4 hcz5 hfz0 hfz1 hfz2 hfz3 hfz4 hfz5 h0 h1 h2 h3 h4 h5; (have hcbk60 : w27.cell? ⟨gb, 0, none⟩ = some (.int .i16 X.f0) := (blk_cell BK6.out 0).trans rfl); (have hcbk61 : w27.cell? ⟨gb, 1, none⟩ = some (.int .i16 X.f1) := (blk_cell BK6.out 1).trans rfl); (have hcbk62 : w27.cell? ⟨gb, 2, none⟩ = some (.int .i16 X.f2) := (blk_cell BK6.out 2).trans rfl); (have hcbk63 : w27.cell? ⟨gb, 3, none⟩ = some (.int .i16 X.f3) := (blk_cell BK6.out 3).trans rfl); (have hcbk64 : w27.cell? ⟨gb, 4, none⟩ = some (.int .i16 X.f4) := (blk_cell BK6.out 4).trans rfl); (have hcbk65 : w27.cell? ⟨gb, 5, none⟩ = some (.int .i8 X.f5) := (blk_cell BK6.out 5).trans rfl); (have hfbk65 := blk_frozen BK6.out 5))
                | ((with_reducible refine gate_store (t := 36) (p := 58) rfl ?_); refine store_event (t := 36) (p := 58) (v := ?vo2) (w1 := (w27.setCell ⟨gb, 5, none⟩ (.int .i8 (IntKind.i8.wrap (-X.f5))))) ?hg ?ho ?hn ?hr ?_; (case ho => rfl); (case hg => rfl); (case hn => rfl); (case hr => first | (go_simp; done) | (go_simp; rfl)); intro w28 hw28; (have HO7 := Aside0.mk (show Kd.R k40 40 w28 w.heap.size (fun _ => True) u10 acc by rw [hw28]; exact Kd.R_mono (Kd.R_far (p := ⟨gb, 5, none⟩) (Kd.R_types HO6.out BK6.out (by decide)) (fun _ hk => hk.2) _) (fun _ _ => trivial))); (have HW7 := Aside0.mk (show Kd.R (Kd.int .u8) 5 w28 w.heap.size (fun _ => True) (.slice A4 row.length c4) row by rw [hw28]; exact Kd.R_mono (Kd.R_far (p := ⟨gb, 5, none⟩) (Kd.R_types HW6.out BK6.out (by decide)) (fun _ hk => hk.2) _) (fun _ _ => trivial))); (have HB7 := Aside0.mk (show Below w.heap.size w w28 by rw [hw28]; exact below_set HB6.out GW.out)); (have BK7 := Aside0.mk (show w28.heap[gb]? = some (.cells #[.int .i16 X.f0, .int .i16 X.f1, .int .i16 X.f2, .int .i16 X.f3, .int .i16 X.f4, .int .i8 (IntKind.i8.wrap (-X.f5))] 38 (0, 0)) by rw [hw28]; exact blk_put BK6.out 5 _ rfl)); clear hw28 HO6 HW6 HB6 BK6 hcbk60 hcbk61 hcbk62 hcbk63 hcbk64 hcbk65 hfbk65; (have hcbk70 : w28.cell? ⟨gb, 0, none⟩ = some (.int .i16 X.f0) := (blk_cell BK7.out 0).trans rfl); (have hcbk71 : w28.cell? ⟨gb, 1, none⟩ = some (.int .i16 X.f1) := (blk_cell BK7.out 1).trans rfl); (have hcbk72 : w28.cell? ⟨gb, 2, none⟩ = some (.int .i16 X.f2) := (blk_cell BK7.out 2).trans rfl); (have hcbk73 : w28.cell? ⟨gb, 3, none⟩ = some (.int .i16 X.f3) := (blk_cell BK7.out 3).trans rfl); (have hcbk74 : w28.cell? ⟨gb, 4, none⟩ = some (.int .i16 X.f4) := (blk_cell BK7.out 4).trans rfl); (have hcbk75 : w28.cell? ⟨gb, 5, none⟩ = some (.int .i8 (IntKind.i8.wrap (-X.f5))) := (blk_cell BK7.out 5).trans rfl); (have hfbk75 := blk_frozen BK7.out 5))
                | (go_at_call 76; refine (spec_l05Turned.calls k A4 c4 row _ _ _ _ _ _ 1 wo _ (Kd.R_reads' HW7.out).2.2 (Kd.R_reads' HW7.out).2.1 HWO.out).mono ?_; rintro e w7 ⟨v7, rfl, ho7, hb7⟩; obtain ⟨A7, c7, rfl⟩ := Kd.R_slice ho7; (have HS7 := Aside0.mk ho7); (have HO8 := Aside0.mk (Kd.R_below HO7.out hb7)); (have HW8 := Aside0.mk (Kd.R_below HW7.out hb7)); (have HB8 := Aside0.mk (below_step HB7.out hb7)); clear ho7 hb7 HO7 HW7 HB7 BK7 hcbk70 hcbk71 hcbk72 hcbk73 hcbk74 hcbk75 hfbk75)
                | (go_at_call 20; refine (spec_SameRow.calls k A7 c7 wo A3 c3 l3 _ _ (Kd.R_reads' HS7.out).2.2 (Kd.R_reads' HS7.out).2.1 (Kd.C_below HR3.out HB8.out) HC3.out HQ.out).mono ?_; rintro e w8 ⟨rfl, ⟨nd, rfl⟩⟩))
              go_roundw
              case rel => exact ⟨i + 1, acc, by omega, by have := HD.out; go_num, ⟨by simpa using HF'.out⟩, ⟨by have := HLA.out; have := HD.out; omega⟩, ⟨Kd.R_drewN HO8.out _⟩, ⟨Kd.R_drewN HW8.out _⟩, ⟨pw_below_drewN HB8.out _⟩⟩
              case measure => have := HD.out; simp [intOf]; omega
            | true =>
              have HACC2 := Aside0.mk (show spec_missDays X (i : Int) (a2 + 1 - 0).toNat 0 acc = some acc' by have := HACC.out; simpa using this)
              clear HACC
              go_wp2_with (first
                | ((with_reducible refine gate_dst (N := 14) rfl ?_); refine box_event ?hg (N := 14) ?hd (cs := #[.int .i16 0, .int .i16 0, .int .i16 0, .int .i16 0, .int .i16 0, .int .i8 0]) (t := 38) ?hr ?_; (case hd => rfl); (case hg => rfl); (case hr => first | (go_simp; done) | (go_simp; rfl)); intro gb hg w26 hbox hb; (have HO2 := Aside0.mk (Kd.R_below HO.out hb)); (have HW2 := Aside0.mk (Kd.R_below HW.out hb)); (have HB2 := Aside0.mk (below_step HB.out hb)); (have GW := Aside0.mk (show w.heap.size ≤ gb by omega)); (have BK := Aside0.mk hbox); clear hb hg HO HW HB; (have hcz0 : w26.cell? ⟨gb, 0, none⟩ = some (.int .i16 0) := (blk_cell BK.out 0).trans rfl); (have hcz1 : w26.cell? ⟨gb, 1, none⟩ = some (.int .i16 0) := (blk_cell BK.out 1).trans rfl); (have hcz2 : w26.cell? ⟨gb, 2, none⟩ = some (.int .i16 0) := (blk_cell BK.out 2).trans rfl); (have hcz3 : w26.cell? ⟨gb, 3, none⟩ = some (.int .i16 0) := (blk_cell BK.out 3).trans rfl); (have hcz4 : w26.cell? ⟨gb, 4, none⟩ = some (.int .i16 0) := (blk_cell BK.out 4).trans rfl); (have hcz5 : w26.cell? ⟨gb, 5, none⟩ = some (.int .i8 0) := (blk_cell BK.out 5).trans rfl); (have hfz0 := blk_frozen BK.out 0; have hfz1 := blk_frozen BK.out 1; have hfz2 := blk_frozen BK.out 2; have hfz3 := blk_frozen BK.out 3; have hfz4 := blk_frozen BK.out 4; have hfz5 := blk_frozen BK.out 5); clear hbox)
                | ((with_reducible refine gate_store (t := 38) (p := 14) rfl ?_); refine store_event (t := 38) (p := 14) (v := ?vo) (w1 := ((((((w26.setCell ⟨gb, 0, none⟩ (.int .i16 X.f0)).setCell ⟨gb, 1, none⟩ (.int .i16 X.f1)).setCell ⟨gb, 2, none⟩ (.int .i16 X.f2)).setCell ⟨gb, 3, none⟩ (.int .i16 X.f3)).setCell ⟨gb, 4, none⟩ (.int .i16 X.f4)).setCell ⟨gb, 5, none⟩ (.int .i8 X.f5))) ?hg ?ho ?hn ?hr ?_; (case ho => rfl); (case hg => rfl); (case hn => rfl); (case hr => first | (go_simp; done) | (go_simp; rfl)); intro w27 hw27; obtain ⟨HO6, HW6, HB6, BK6⟩ := FK.out w26 gb BK.out HO2 HW2 HB2.out GW.out; (rw [← hw27] at HO6 HW6 HB6 BK6); clear hw27 HO2 HW2 HB2 FK BK hcz0 hcz1 hcz2 hcz3 hcz4 hcz5 hfz0 hfz1 hfz2 hfz3 hfz4 hfz5 h0 h1 h2 h3 h4 h5; (have hcbk60 : w27.cell? ⟨gb, 0, none⟩ = some (.int .i16 X.f0) := (blk_cell BK6.out 0).trans rfl); (have hcbk61 : w27.cell? ⟨gb, 1, none⟩ = some (.int .i16 X.f1) := (blk_cell BK6.out 1).trans rfl); (have hcbk62 : w27.cell? ⟨gb, 2, none⟩ = some (.int .i16 X.f2) := (blk_cell BK6.out 2).trans rfl); (have hcbk63 : w27.cell? ⟨gb, 3, none⟩ = some (.int .i16 X.f3) := (blk_cell BK6.out 3).trans rfl); (have hcbk64 : w27.cell? ⟨gb, 4, none⟩ = some (.int .i16 X.f4) := (blk_cell BK6.out 4).trans rfl); (have hcbk65 : w27.cell? ⟨gb, 5, none⟩ = some (.int .i8 X.f5) := (blk_cell BK6.out 5).trans rfl); (have hfbk65 := blk_frozen BK6.out 5))
                | ((with_reducible refine gate_store (t := 36) (p := 58) rfl ?_); refine store_event (t := 36) (p := 58) (v := ?vo2) (w1 := (w27.setCell ⟨gb, 5, none⟩ (.int .i8 (IntKind.i8.wrap (-X.f5))))) ?hg ?ho ?hn ?hr ?_; (case ho => rfl); (case hg => rfl); (case hn => rfl); (case hr => first | (go_simp; done) | (go_simp; rfl)); intro w28 hw28; (have HO7 := Aside0.mk (show Kd.R k40 40 w28 w.heap.size (fun _ => True) u10 acc by rw [hw28]; exact Kd.R_mono (Kd.R_far (p := ⟨gb, 5, none⟩) (Kd.R_types HO6.out BK6.out (by decide)) (fun _ hk => hk.2) _) (fun _ _ => trivial))); (have HW7 := Aside0.mk (show Kd.R (Kd.int .u8) 5 w28 w.heap.size (fun _ => True) (.slice A4 row.length c4) row by rw [hw28]; exact Kd.R_mono (Kd.R_far (p := ⟨gb, 5, none⟩) (Kd.R_types HW6.out BK6.out (by decide)) (fun _ hk => hk.2) _) (fun _ _ => trivial))); (have HB7 := Aside0.mk (show Below w.heap.size w w28 by rw [hw28]; exact below_set HB6.out GW.out)); (have BK7 := Aside0.mk (show w28.heap[gb]? = some (.cells #[.int .i16 X.f0, .int .i16 X.f1, .int .i16 X.f2, .int .i16 X.f3, .int .i16 X.f4, .int .i8 (IntKind.i8.wrap (-X.f5))] 38 (0, 0)) by rw [hw28]; exact blk_put BK6.out 5 _ rfl)); clear hw28 HO6 HW6 HB6 BK6 hcbk60 hcbk61 hcbk62 hcbk63 hcbk64 hcbk65 hfbk65; (have hcbk70 : w28.cell? ⟨gb, 0, none⟩ = some (.int .i16 X.f0) := (blk_cell BK7.out 0).trans rfl); (have hcbk71 : w28.cell? ⟨gb, 1, none⟩ = some (.int .i16 X.f1) := (blk_cell BK7.out 1).trans rfl); (have hcbk72 : w28.cell? ⟨gb, 2, none⟩ = some (.int .i16 X.f2) := (blk_cell BK7.out 2).trans rfl); (have hcbk73 : w28.cell? ⟨gb, 3, none⟩ = some (.int .i16 X.f3) := (blk_cell BK7.out 3).trans rfl); (have hcbk74 : w28.cell? ⟨gb, 4, none⟩ = some (.int .i16 X.f4) := (blk_cell BK7.out 4).trans rfl); (have hcbk75 : w28.cell? ⟨gb, 5, none⟩ = some (.int .i8 (IntKind.i8.wrap (-X.f5))) := (blk_cell BK7.out 5).trans rfl); (have hfbk75 := blk_frozen BK7.out 5))
                | (go_at_call 76; refine (spec_l05Turned.calls k A4 c4 row _ _ _ _ _ _ 1 wo _ (Kd.R_reads' HW7.out).2.2 (Kd.R_reads' HW7.out).2.1 HWO.out).mono ?_; rintro e w7 ⟨v7, rfl, ho7, hb7⟩; obtain ⟨A7, c7, rfl⟩ := Kd.R_slice ho7; (have HS7 := Aside0.mk ho7); (have HO8 := Aside0.mk (Kd.R_below HO7.out hb7)); (have HW8 := Aside0.mk (Kd.R_below HW7.out hb7)); (have HB8 := Aside0.mk (below_step HB7.out hb7)); clear ho7 hb7 HO7 HW7 HB7 BK7 hcbk70 hcbk71 hcbk72 hcbk73 hcbk74 hcbk75 hfbk75)
                | (go_at_call 20; refine (spec_SameRow.calls k A7 c7 wo A3 c3 l3 _ _ (Kd.R_reads' HS7.out).2.2 (Kd.R_reads' HS7.out).2.1 (Kd.C_below HR3.out HB8.out) HC3.out HQ.out).mono ?_; rintro e w8 ⟨rfl, ⟨nd, rfl⟩⟩))
              go_loopw [10, 15] (fun v10 v15 w' => ∃ (d : Int) (ac : List S40), 0 ≤ d ∧ d ≤ a2 + 1 ∧ v15 = .int .i64 d ∧ Aside0 (spec_missDays X (i : Int) (a2 + 1 - d).toNat d ac = some acc') ∧ Aside0 ((ac.length : Int) ≤ 1000 * i + d) ∧ Aside0 (Kd.R k40 40 w' w.heap.size (fun _ => True) v10 ac) ∧ Aside0 (Kd.R (Kd.int .u8) 5 w' w.heap.size (fun _ => True) (.slice A4 row.length c4) row) ∧ Aside0 (Below w.heap.size w w')) (fun _ v15 _ => (a2 + 1 - intOf v15).toNat)
              case atStart => exact ⟨0, acc, by omega, by omega, rfl, HACC2, ⟨by have := HLA.out; have := HD.out; omega⟩, ⟨Kd.R_drewN HO8.out _⟩, ⟨Kd.R_drewN HW8.out _⟩, ⟨pw_below_drewN HB8.out _⟩⟩
              case round =>
                clear HACC2 HO8 HW8 HB8 HS7
                obtain ⟨d, ac, hd0', hd1', rfl, HM, HAL, HO, HW, HB⟩ := hrel
                obtain ⟨wq, rfl⟩ : ∃ wo : World, wo = wr := ⟨_, rfl⟩
                by_cases hle : d ≤ a2
                · have hM := HM.out
                  rw [show (a2 + 1 - d).toNat = (a2 + 1 - (d + 1)).toNat + 1 by omega] at hM
                  obtain ⟨b, hb, hM2⟩ := Option.bind_eq_some_iff.mp hM
                  have HBB := Aside0.mk hb
                  have HM2 := Aside0.mk hM2
                  clear hb hM hM2 HM
                  have q2 := eq_true hle
                  have hdd : d ≤ 400 := by have := HD.out; omega
                  obtain ⟨ad', e', g0, g1, g2, g3, g4, g5⟩ := at_T38 (Kd.C_below HR1.out HB.out) (i : Int) (by omega) (by omega)
                  cases e'
                  rw [HXE.out] at g0 g1 g2 g3 g4 g5
                  simp only [Int.toNat_natCast] at g0 g1 g2 g3 g4 g5
                  have q5 := eq_true (show i < l1.length from hlt)
                  cases b with
                  | false =>
                    go_wp2_with (go_at_call 77; refine (spec_l05On.calls _ _ _ _ _ _ _ _ _ HBB.out).mono ?_; rintro e w9 ⟨rfl, hb9⟩; (have HO9 := Aside0.mk (Kd.R_below HO.out hb9)); (have HW9 := Aside0.mk (Kd.R_below HW.out hb9)); (have HB9 := Aside0.mk (below_step HB.out hb9)); clear hb9 HO HW HB g0 g1 g2 g3 g4 g5)
                    go_roundw
                    case rel => exact ⟨d + 1, ac, by omega, by omega, by have := HD.out; go_num, ⟨by simpa using HM2.out⟩, ⟨by have := HAL.out; have := HD.out; omega⟩, HO9, HW9, HB9⟩
                    case measure => have := HD.out; simp [intOf]; omega
                  | true =>
                    go_wp2_with (first
                      | (go_at_call 77; refine (spec_l05On.calls _ _ _ _ _ _ _ _ _ HBB.out).mono ?_; rintro e w9 ⟨rfl, hb9⟩; (have HO9 := Aside0.mk (Kd.R_below HO.out hb9)); (have HW9 := Aside0.mk (Kd.R_below HW.out hb9)); (have HB9 := Aside0.mk (below_step HB.out hb9)); clear hb9 HO HW HB g0 g1 g2 g3 g4 g5)
                      | (at_builtin; refine Kd.R_append k40 (w0 := w) w.heap.size rfl (.tmp 76) (.tmp 80) 31 40 (.agg #[(.int .i64 0), (.int .i64 0)]) 16 rfl Try.underlying31 info40 rfl (by decide) (by omega) _ ac (⟨(i : Int), d⟩ : S40) [.int .i64 (i : Int), .int .i64 d] (fun _ => True) (fun _ => False) rfl rfl (k40_mkM _ _ _ (⟨(i : Int), d⟩ : S40)) (fun _ hk => hk.elim) (fun _ _ => trivial) HO9.out HB9.out HB9.out.size (by have := HAL.out; have := HD.out; omega) ?_; intro v81 w81 ho81 hb81 hg81 _; (have HO10 := Aside0.mk ho81); (have HB10 := Aside0.mk hb81); (have HW10 := Aside0.mk (Kd.R_over' HW9.out (Kd.R_typed HO9.out) (by decide) hg81)); clear ho81 hb81 hg81 HO9 HB9 HW9))
                    go_roundw
                    case rel => exact ⟨d + 1, ac ++ [⟨(i : Int), d⟩], by omega, by omega, by have := HD.out; go_num, ⟨by simpa using HM2.out⟩, ⟨by have := HAL.out; have := HD.out; simp; omega⟩, HO10, HW10, HB10⟩
                    case measure => have := HD.out; simp [intOf]; omega
                · have hM := HM.out
                  rw [show (a2 + 1 - d).toNat = 0 by omega] at hM
                  obtain rfl := Option.some.inj hM
                  have q2 : (d ≤ a2) = False := eq_false hle
                  clear hM HM
                  go_wp2
                  go_roundw
                  case rel => exact ⟨i + 1, ac, by omega, by have := HD.out; go_num, ⟨by simpa using HF'.out⟩, ⟨by have := HAL.out; have := HD.out; omega⟩, HO, HW, HB⟩
                  case measure => have := HD.out; simp [intOf]; omega
          · have hF := HF.out
            rw [List.drop_eq_nil_of_le (by omega)] at hF
            obtain rfl := Option.some.inj hF
            have q1 : ((i : Int) < (l1.length : Int)) = False := eq_false (by omega)
            clear hF HF
            go_wp2
            go_ret2
            exact ⟨_, rfl, HO.out, HB.out⟩
    exact hmain
end Go.Proofs.Ytmheflciiodhdaa.P
-- Written by wip/tools/mkprint.py of this repo, over the kit's print, out of the translation; Lean checks it.
namespace Go.Proofs.Ytmheflciiodhdaa.P
open Go.RowKit Go.Proofs.YtmheflciiodhdaaW.PrintWords Go.Proofs.YtmheflciiodhdaaW.PrintLast Go.Proofs.YtmheflciiodhdaaW.PrintMore
attribute [local go_sem] max2_int min2_int max_two min_two max_three min_three max_four min_four   -- for this text's walks alone
set_option linter.unusedVariables false
set_option linter.unusedSimpArgs false
/-! ### laws_FnExactMissedWalks: function 5 -/
mutual
def laws_FnExactMissedWalks.j0 : Nat → List Int → List (S94) → Int → List Int → List (S40) → Int → List Int → List (S38) → List Int → List (S40) → Int → Bool → Option (Bool)
  | 0, _, _, _, _, _, _, _, _, _, _, _, _ => none
  | k + 1, x0, x1, x2, x3, x10, x11, x12, x13, x14, x15, x16, x66 => if x66 = true then (some false) else ((laws_toRow.f k x0).bind fun t495 => ((laws_eqRow.f k x12 t495).bind fun t498 => (if t498 = true then ((laws_toWalkerS.f k x1).bind fun t499 => ((laws_eqWalkerS.f k x13 t499).bind fun t502 => (if t502 = true then ((laws_toRow.f k x3).bind fun t503 => ((laws_eqRow.f k x14 t503).bind fun t506 => (if t506 = true then ((laws_markRow.f k x12 1).bind fun bt507 => ((laws_markWalkerS.f k x13 bt507.1).bind fun bt509 => ((laws_markRow.f k x14 bt509.1).bind fun bt511 => (if bt511.1 < 0 then (laws_FnExactMissedWalks.j1 k x0 x1 x2 x3 x10 x11 x15 true) else ((laws_eqInt64A2S.f k x15 x10).bind fun t513 => (if t513 = true then (laws_FnExactMissedWalks.j1 k x0 x1 x2 x3 x10 x11 x15 (x16 != x11)) else (laws_FnExactMissedWalks.j1 k x0 x1 x2 x3 x10 x11 x15 true))))))) else (some false)))) else (some false)))) else (some false))))
def laws_FnExactMissedWalks.j1 : Nat → List Int → List (S94) → Int → List Int → List (S40) → Int → List (S40) → Bool → Option (Bool)
  | 0, _, _, _, _, _, _, _, _ => none
  | k + 1, x0, x1, x2, x3, x10, x11, x15, x103 => if x103 = true then (some false) else ((laws_markInt64A2S.f k x15 1).bind fun bt514 => ((laws_heldInt64A2S.f k bt514.2 1).bind fun t516 => (if t516 < 0 then (some false) else (if t516 = bt514.1 then ((laws_toRow.f k x0).bind fun t517 => ((laws_toWalkerS.f k x1).bind fun t520 => ((laws_toRow.f k x3).bind fun t523 => ((impl_MissedWalks.f k t517 t520 x2 t523).bind fun bt526 => ((laws_eqInt64A2S.f k bt526.1 x10).bind fun t530 => (if t530 = true then (laws_FnExactMissedWalks.j2 k bt514.2 bt514.1 (bt526.2 != x11)) else (laws_FnExactMissedWalks.j2 k bt514.2 bt514.1 true))))))) else (some false)))))
def laws_FnExactMissedWalks.j2 : Nat → List (S40) → Int → Bool → Option (Bool)
  | 0, _, _, _ => none
  | k + 1, x15, x18, x134 => if x134 = true then (some false) else ((laws_heldInt64A2S.f k x15 1).bind fun t531 => (if t531 < 0 then (some false) else (if t531 = x18 then (some true) else (some false))))
end
def laws_FnExactMissedWalks.f (k : Nat) (l0 : List Int) (l1 : List (S94)) (a2 : Int) (l3 : List Int) : Option (Bool) := if (l0.length : Int) > 1048576 then (some true) else (if (l3.length : Int) > 1048576 then (some true) else ((laws_szWalkerS.f l1 1048576).bind fun t467 => (if t467 < 0 then (some true) else ((laws_toRow.f k l0).bind fun t468 => ((laws_toWalkerS.f k l1).bind fun t471 => ((laws_toRow.f k l3).bind fun t474 => ((spec_MissedWalks.f k t468 t471 a2 t474).bind fun bt477 => ((laws_toRow.f k l0).bind fun t481 => ((laws_toWalkerS.f k l1).bind fun t484 => ((laws_toRow.f k l3).bind fun t487 => ((impl_MissedWalks.f k t481 t484 a2 t487).bind fun bt490 => ((laws_eqInt64A2S.f k bt490.1 bt477.1).bind fun t494 => (if t494 = true then (laws_FnExactMissedWalks.j0 k l0 l1 a2 l3 bt477.1 bt477.2 t481 t484 t487 bt490.1 bt490.2 (bt490.2 != bt477.2)) else (laws_FnExactMissedWalks.j0 k l0 l1 a2 l3 bt477.1 bt477.2 t481 t484 t487 bt490.1 bt490.2 true))))))))))))))
theorem laws_FnExactMissedWalks.mono_l : ∀ k, (∀ y0 y1 y2 y3 y4 y5 y6 y7 y8 y9 y10 y11, LeO (laws_FnExactMissedWalks.j0 k y0 y1 y2 y3 y4 y5 y6 y7 y8 y9 y10 y11) (laws_FnExactMissedWalks.j0 (k + 1) y0 y1 y2 y3 y4 y5 y6 y7 y8 y9 y10 y11)) ∧ (∀ y0 y1 y2 y3 y4 y5 y6 y7, LeO (laws_FnExactMissedWalks.j1 k y0 y1 y2 y3 y4 y5 y6 y7) (laws_FnExactMissedWalks.j1 (k + 1) y0 y1 y2 y3 y4 y5 y6 y7)) ∧ (∀ y0 y1 y2, LeO (laws_FnExactMissedWalks.j2 k y0 y1 y2) (laws_FnExactMissedWalks.j2 (k + 1) y0 y1 y2))
  | 0 => ⟨fun _ _ _ _ _ _ _ _ _ _ _ _ r h => by simp [laws_FnExactMissedWalks.j0] at h, fun _ _ _ _ _ _ _ _ r h => by simp [laws_FnExactMissedWalks.j1] at h, fun _ _ _ r h => by simp [laws_FnExactMissedWalks.j2] at h⟩
  | k + 1 => by
    obtain ⟨ih0, ih1, ih2⟩ := laws_FnExactMissedWalks.mono_l k
    refine ⟨?_, ?_, ?_⟩
    · intro y0 y1 y2 y3 y4 y5 y6 y7 y8 y9 y10 y11
      unfold laws_FnExactMissedWalks.j0
      repeat' first
      | (with_reducible exact ih0 _ _ _ _ _ _ _ _ _ _ _ _)
      | (with_reducible exact ih1 _ _ _ _ _ _ _ _)
      | (with_reducible exact ih2 _ _ _)
      | (with_reducible exact impl_MissedWalks.mono _ _ _ _ _)
      | (with_reducible exact laws_eqInt64A2S.mono _ _ _)
      | (with_reducible exact laws_eqRow.mono _ _ _)
      | (with_reducible exact laws_eqWalkerS.mono _ _ _)
      | (with_reducible exact laws_heldInt64A2S.mono _ _ _)
      | (with_reducible exact laws_markInt64A2S.mono _ _ _)
      | (with_reducible exact laws_markRow.mono _ _ _)
      | (with_reducible exact laws_markWalkerS.mono _ _ _)
      | (with_reducible exact laws_toRow.mono _ _)
      | (with_reducible exact laws_toWalkerS.mono _ _)
      | (with_reducible exact spec_MissedWalks.mono _ _ _ _ _)
      | (with_reducible exact LeO.refl _)
      | (with_reducible exact LeO.none _)
      | (with_reducible refine LeO.ite ?_ ?_)
      | (with_reducible refine LeO.bind ?_ (fun _ => ?_))
      | exact ih0 _ _ _ _ _ _ _ _ _ _ _ _
      | exact ih1 _ _ _ _ _ _ _ _
      | exact ih2 _ _ _
      | exact impl_MissedWalks.mono _ _ _ _ _
      | exact laws_eqInt64A2S.mono _ _ _
      | exact laws_eqRow.mono _ _ _
      | exact laws_eqWalkerS.mono _ _ _
      | exact laws_heldInt64A2S.mono _ _ _
      | exact laws_markInt64A2S.mono _ _ _
      | exact laws_markRow.mono _ _ _
      | exact laws_markWalkerS.mono _ _ _
      | exact laws_toRow.mono _ _
      | exact laws_toWalkerS.mono _ _
      | exact spec_MissedWalks.mono _ _ _ _ _
      | exact LeO.none _
      | refine LeO.ite ?_ ?_
      | refine LeO.bind ?_ (fun _ => ?_)
    · intro y0 y1 y2 y3 y4 y5 y6 y7
      unfold laws_FnExactMissedWalks.j1
      repeat' first
      | (with_reducible exact ih0 _ _ _ _ _ _ _ _ _ _ _ _)
      | (with_reducible exact ih1 _ _ _ _ _ _ _ _)
      | (with_reducible exact ih2 _ _ _)
      | (with_reducible exact impl_MissedWalks.mono _ _ _ _ _)
      | (with_reducible exact laws_eqInt64A2S.mono _ _ _)
      | (with_reducible exact laws_eqRow.mono _ _ _)
      | (with_reducible exact laws_eqWalkerS.mono _ _ _)
      | (with_reducible exact laws_heldInt64A2S.mono _ _ _)
      | (with_reducible exact laws_markInt64A2S.mono _ _ _)
      | (with_reducible exact laws_markRow.mono _ _ _)
      | (with_reducible exact laws_markWalkerS.mono _ _ _)
      | (with_reducible exact laws_toRow.mono _ _)
      | (with_reducible exact laws_toWalkerS.mono _ _)
      | (with_reducible exact spec_MissedWalks.mono _ _ _ _ _)
      | (with_reducible exact LeO.refl _)
      | (with_reducible exact LeO.none _)
      | (with_reducible refine LeO.ite ?_ ?_)
      | (with_reducible refine LeO.bind ?_ (fun _ => ?_))
      | exact ih0 _ _ _ _ _ _ _ _ _ _ _ _
      | exact ih1 _ _ _ _ _ _ _ _
      | exact ih2 _ _ _
      | exact impl_MissedWalks.mono _ _ _ _ _
      | exact laws_eqInt64A2S.mono _ _ _
      | exact laws_eqRow.mono _ _ _
      | exact laws_eqWalkerS.mono _ _ _
      | exact laws_heldInt64A2S.mono _ _ _
      | exact laws_markInt64A2S.mono _ _ _
      | exact laws_markRow.mono _ _ _
      | exact laws_markWalkerS.mono _ _ _
      | exact laws_toRow.mono _ _
      | exact laws_toWalkerS.mono _ _
      | exact spec_MissedWalks.mono _ _ _ _ _
      | exact LeO.none _
      | refine LeO.ite ?_ ?_
      | refine LeO.bind ?_ (fun _ => ?_)
    · intro y0 y1 y2
      unfold laws_FnExactMissedWalks.j2
      repeat' first
      | (with_reducible exact ih0 _ _ _ _ _ _ _ _ _ _ _ _)
      | (with_reducible exact ih1 _ _ _ _ _ _ _ _)
      | (with_reducible exact ih2 _ _ _)
      | (with_reducible exact impl_MissedWalks.mono _ _ _ _ _)
      | (with_reducible exact laws_eqInt64A2S.mono _ _ _)
      | (with_reducible exact laws_eqRow.mono _ _ _)
      | (with_reducible exact laws_eqWalkerS.mono _ _ _)
      | (with_reducible exact laws_heldInt64A2S.mono _ _ _)
      | (with_reducible exact laws_markInt64A2S.mono _ _ _)
      | (with_reducible exact laws_markRow.mono _ _ _)
      | (with_reducible exact laws_markWalkerS.mono _ _ _)
      | (with_reducible exact laws_toRow.mono _ _)
      | (with_reducible exact laws_toWalkerS.mono _ _)
      | (with_reducible exact spec_MissedWalks.mono _ _ _ _ _)
      | (with_reducible exact LeO.refl _)
      | (with_reducible exact LeO.none _)
      | (with_reducible refine LeO.ite ?_ ?_)
      | (with_reducible refine LeO.bind ?_ (fun _ => ?_))
      | exact ih0 _ _ _ _ _ _ _ _ _ _ _ _
      | exact ih1 _ _ _ _ _ _ _ _
      | exact ih2 _ _ _
      | exact impl_MissedWalks.mono _ _ _ _ _
      | exact laws_eqInt64A2S.mono _ _ _
      | exact laws_eqRow.mono _ _ _
      | exact laws_eqWalkerS.mono _ _ _
      | exact laws_heldInt64A2S.mono _ _ _
      | exact laws_markInt64A2S.mono _ _ _
      | exact laws_markRow.mono _ _ _
      | exact laws_markWalkerS.mono _ _ _
      | exact laws_toRow.mono _ _
      | exact laws_toWalkerS.mono _ _
      | exact spec_MissedWalks.mono _ _ _ _ _
      | exact LeO.none _
      | refine LeO.ite ?_ ?_
      | refine LeO.bind ?_ (fun _ => ?_)
theorem laws_FnExactMissedWalks.mono : ∀ a0 a1 a2 a3 k, LeO (laws_FnExactMissedWalks.f k a0 a1 a2 a3) (laws_FnExactMissedWalks.f (k + 1) a0 a1 a2 a3) := by
  intro a0 a1 a2 a3 k
  obtain ⟨ih0, ih1, ih2⟩ := laws_FnExactMissedWalks.mono_l k
  unfold laws_FnExactMissedWalks.f
  repeat' first
      | (with_reducible exact ih0 _ _ _ _ _ _ _ _ _ _ _ _)
      | (with_reducible exact ih1 _ _ _ _ _ _ _ _)
      | (with_reducible exact ih2 _ _ _)
      | (with_reducible exact impl_MissedWalks.mono _ _ _ _ _)
      | (with_reducible exact laws_eqInt64A2S.mono _ _ _)
      | (with_reducible exact laws_eqRow.mono _ _ _)
      | (with_reducible exact laws_eqWalkerS.mono _ _ _)
      | (with_reducible exact laws_heldInt64A2S.mono _ _ _)
      | (with_reducible exact laws_markInt64A2S.mono _ _ _)
      | (with_reducible exact laws_markRow.mono _ _ _)
      | (with_reducible exact laws_markWalkerS.mono _ _ _)
      | (with_reducible exact laws_toRow.mono _ _)
      | (with_reducible exact laws_toWalkerS.mono _ _)
      | (with_reducible exact spec_MissedWalks.mono _ _ _ _ _)
      | (with_reducible exact LeO.refl _)
      | (with_reducible exact LeO.none _)
      | (with_reducible refine LeO.ite ?_ ?_)
      | (with_reducible refine LeO.bind ?_ (fun _ => ?_))
      | exact ih0 _ _ _ _ _ _ _ _ _ _ _ _
      | exact ih1 _ _ _ _ _ _ _ _
      | exact ih2 _ _ _
      | exact impl_MissedWalks.mono _ _ _ _ _
      | exact laws_eqInt64A2S.mono _ _ _
      | exact laws_eqRow.mono _ _ _
      | exact laws_eqWalkerS.mono _ _ _
      | exact laws_heldInt64A2S.mono _ _ _
      | exact laws_markInt64A2S.mono _ _ _
      | exact laws_markRow.mono _ _ _
      | exact laws_markWalkerS.mono _ _ _
      | exact laws_toRow.mono _ _
      | exact laws_toWalkerS.mono _ _
      | exact spec_MissedWalks.mono _ _ _ _ _
      | exact LeO.none _
      | refine LeO.ite ?_ ?_
      | refine LeO.bind ?_ (fun _ => ?_)
set_option maxHeartbeats 8000000 in
set_option maxRecDepth 100000 in
theorem laws_FnExactMissedWalks.calls (k : Nat) (A0 : Option Addr) (c0 : Nat) (l0 : List Int) (A1 : Option Addr) (c1 : Nat) (l1 : List (S94)) (a2 : Int) (A3 : Option Addr) (c3 : Nat) (l3 : List Int) (r : Bool) (w : World) (hr0 : Kd.C (Kd.int .u8) w A0 l0.length l0) (hc0 : l0.length ≤ c0) (hr1 : Kd.C k94 w A1 l1.length l1) (hc1 : l1.length ≤ c1) (hr3 : Kd.C (Kd.int .u8) w A3 l3.length l3) (hc3 : l3.length ≤ c3) (h : laws_FnExactMissedWalks.f k l0 l1 a2 l3 = some r) (hT_ : r = true) :
    Calls Try.prog 5 #[.slice A0 l0.length c0, .slice A1 l1.length c1, .int .i64 a2, .slice A3 l3.length c3] w fun e w' => e = .returned (.bool r) ∧ Below w.heap.size w w' := by
  have HTrue_ := Aside0.mk hT_
  clear hT_
  have HR0 := Aside0.mk hr0
  have HC0 := Aside0.mk hc0
  clear hr0 hc0
  have HR1 := Aside0.mk hr1
  have HC1 := Aside0.mk hc1
  clear hr1 hc1
  have HR3 := Aside0.mk hr3
  have HC3 := Aside0.mk hc3
  clear hr3 hc3
  have HB := Aside0.mk (Below.refl w.heap.size w)
  have H : (if (l0.length : Int) > 1048576 then (some true) else (if (l3.length : Int) > 1048576 then (some true) else ((laws_szWalkerS.f l1 1048576).bind fun t467 => (if t467 < 0 then (some true) else ((laws_toRow.f k l0).bind fun t468 => ((laws_toWalkerS.f k l1).bind fun t471 => ((laws_toRow.f k l3).bind fun t474 => ((spec_MissedWalks.f k t468 t471 a2 t474).bind fun bt477 => ((laws_toRow.f k l0).bind fun t481 => ((laws_toWalkerS.f k l1).bind fun t484 => ((laws_toRow.f k l3).bind fun t487 => ((impl_MissedWalks.f k t481 t484 a2 t487).bind fun bt490 => ((laws_eqInt64A2S.f k bt490.1 bt477.1).bind fun t494 => (if t494 = true then (laws_FnExactMissedWalks.j0 k l0 l1 a2 l3 bt477.1 bt477.2 t481 t484 t487 bt490.1 bt490.2 (bt490.2 != bt477.2)) else (laws_FnExactMissedWalks.j0 k l0 l1 a2 l3 bt477.1 bt477.2 t481 t484 t487 bt490.1 bt490.2 true))))))))))))))) = some r := h
  clear h
  by_cases c5 : (l0.length : Int) > 1048576
  · rw [if_pos c5] at H
    have c5b0 : decide (1048576 < (l0.length : Int)) = true := decide_eq_true c5
    have c5b1 : decide (1048576 < l0.length) = true := decide_eq_true (by omega)
    clear c5
    obtain rfl := Option.some.inj H
    go_enter Try.func5, Try.ntmps5
    go_wp2
    go_ret
    exact ⟨by first | rfl | (simp [errW_none, errW_some] <;> rfl) | (simp [*, errW_none, errW_some] <;> rfl), by repeat (first | (with_reducible first | exact HB.out | apply below_alloc | apply pw_below_drewN | apply below_drew1) | exact HB.out)⟩
  · rw [if_neg c5] at H
    have c5b0 : decide (1048576 < (l0.length : Int)) = false := decide_eq_false c5
    have c5b1 : decide (1048576 < l0.length) = false := decide_eq_false (by omega)
    clear c5
    by_cases c6 : (l3.length : Int) > 1048576
    · rw [if_pos c6] at H
      have c6b0 : decide (1048576 < (l3.length : Int)) = true := decide_eq_true c6
      have c6b1 : decide (1048576 < l3.length) = true := decide_eq_true (by omega)
      clear c6
      obtain rfl := Option.some.inj H
      go_enter Try.func5, Try.ntmps5
      go_wp2
      go_ret
      exact ⟨by first | rfl | (simp [errW_none, errW_some] <;> rfl) | (simp [*, errW_none, errW_some] <;> rfl), by repeat (first | (with_reducible first | exact HB.out | apply below_alloc | apply pw_below_drewN | apply below_drew1) | exact HB.out)⟩
    · rw [if_neg c6] at H
      have c6b0 : decide (1048576 < (l3.length : Int)) = false := decide_eq_false c6
      have c6b1 : decide (1048576 < l3.length) = false := decide_eq_false (by omega)
      clear c6
      replace H := Option.bind_eq_some_iff.mp H
      obtain ⟨t467, A70, H⟩ := H
      replace H : (if t467 < 0 then (some true) else ((laws_toRow.f k l0).bind fun t468 => ((laws_toWalkerS.f k l1).bind fun t471 => ((laws_toRow.f k l3).bind fun t474 => ((spec_MissedWalks.f k t468 t471 a2 t474).bind fun bt477 => ((laws_toRow.f k l0).bind fun t481 => ((laws_toWalkerS.f k l1).bind fun t484 => ((laws_toRow.f k l3).bind fun t487 => ((impl_MissedWalks.f k t481 t484 a2 t487).bind fun bt490 => ((laws_eqInt64A2S.f k bt490.1 bt477.1).bind fun t494 => (if t494 = true then (laws_FnExactMissedWalks.j0 k l0 l1 a2 l3 bt477.1 bt477.2 t481 t484 t487 bt490.1 bt490.2 (bt490.2 != bt477.2)) else (laws_FnExactMissedWalks.j0 k l0 l1 a2 l3 bt477.1 bt477.2 t481 t484 t487 bt490.1 bt490.2 true)))))))))))) = some r := H
      have A7 := Aside0.mk A70
      clear A70
      by_cases c8 : t467 < 0
      · rw [if_pos c8] at H
        have c8b0 : decide (t467 < 0) = true := decide_eq_true c8
        clear c8
        obtain rfl := Option.some.inj H
        go_enter Try.func5, Try.ntmps5
        go_wp2_with (first | ((with_reducible refine gate_callee (f := 21) rfl ?_); refine goesL_ (some 30) rfl rfl Try.func21 (by kernel_rfl) rfl #[.slice A1 l1.length c1, .int .i64 1048576] rfl (by (try simp only [List.map_toArray, List.map_cons, List.map_nil]); first | done | rfl | (simp only [List.length_drop, List.length_take]; rfl)) ?_; (with_reducible refine (laws_szWalkerS.calls _ _ l1 1048576 t467 _ ?side1 ?side2 A7.out).mono ?_); (case side1 => repeat (first | exact HR1.out | (with_reducible refine Kd.C_alloc ?_ _) | (with_reducible refine Kd.C_drewN ?_ _) | (with_reducible refine Kd.C_drew ?_))); (case side2 => exact HC1.out); rintro e w' ⟨rfl, ⟨nd, rfl⟩⟩; refine ⟨_, rfl, ?_⟩))
        go_ret
        exact ⟨by first | rfl | (simp [errW_none, errW_some] <;> rfl) | (simp [*, errW_none, errW_some] <;> rfl), by repeat (first | (with_reducible first | exact HB.out | apply below_alloc | apply pw_below_drewN | apply below_drew1) | exact HB.out)⟩
      · rw [if_neg c8] at H
        have c8b0 : decide (t467 < 0) = false := decide_eq_false c8
        clear c8
        replace H := Option.bind_eq_some_iff.mp H
        obtain ⟨t468, A90, H⟩ := H
        replace H : ((laws_toWalkerS.f k l1).bind fun t471 => ((laws_toRow.f k l3).bind fun t474 => ((spec_MissedWalks.f k t468 t471 a2 t474).bind fun bt477 => ((laws_toRow.f k l0).bind fun t481 => ((laws_toWalkerS.f k l1).bind fun t484 => ((laws_toRow.f k l3).bind fun t487 => ((impl_MissedWalks.f k t481 t484 a2 t487).bind fun bt490 => ((laws_eqInt64A2S.f k bt490.1 bt477.1).bind fun t494 => (if t494 = true then (laws_FnExactMissedWalks.j0 k l0 l1 a2 l3 bt477.1 bt477.2 t481 t484 t487 bt490.1 bt490.2 (bt490.2 != bt477.2)) else (laws_FnExactMissedWalks.j0 k l0 l1 a2 l3 bt477.1 bt477.2 t481 t484 t487 bt490.1 bt490.2 true)))))))))) = some r := H
        have A9 := Aside0.mk A90
        clear A90
        replace H := Option.bind_eq_some_iff.mp H
        obtain ⟨t471, A100, H⟩ := H
        replace H : ((laws_toRow.f k l3).bind fun t474 => ((spec_MissedWalks.f k t468 t471 a2 t474).bind fun bt477 => ((laws_toRow.f k l0).bind fun t481 => ((laws_toWalkerS.f k l1).bind fun t484 => ((laws_toRow.f k l3).bind fun t487 => ((impl_MissedWalks.f k t481 t484 a2 t487).bind fun bt490 => ((laws_eqInt64A2S.f k bt490.1 bt477.1).bind fun t494 => (if t494 = true then (laws_FnExactMissedWalks.j0 k l0 l1 a2 l3 bt477.1 bt477.2 t481 t484 t487 bt490.1 bt490.2 (bt490.2 != bt477.2)) else (laws_FnExactMissedWalks.j0 k l0 l1 a2 l3 bt477.1 bt477.2 t481 t484 t487 bt490.1 bt490.2 true))))))))) = some r := H
        have A10 := Aside0.mk A100
        clear A100
        replace H := Option.bind_eq_some_iff.mp H
        obtain ⟨t474, A110, H⟩ := H
        replace H : ((spec_MissedWalks.f k t468 t471 a2 t474).bind fun bt477 => ((laws_toRow.f k l0).bind fun t481 => ((laws_toWalkerS.f k l1).bind fun t484 => ((laws_toRow.f k l3).bind fun t487 => ((impl_MissedWalks.f k t481 t484 a2 t487).bind fun bt490 => ((laws_eqInt64A2S.f k bt490.1 bt477.1).bind fun t494 => (if t494 = true then (laws_FnExactMissedWalks.j0 k l0 l1 a2 l3 bt477.1 bt477.2 t481 t484 t487 bt490.1 bt490.2 (bt490.2 != bt477.2)) else (laws_FnExactMissedWalks.j0 k l0 l1 a2 l3 bt477.1 bt477.2 t481 t484 t487 bt490.1 bt490.2 true)))))))) = some r := H
        have A11 := Aside0.mk A110
        clear A110
        replace H := Option.bind_eq_some_iff.mp H
        obtain ⟨⟨t477, t478⟩, A120, H⟩ := H
        replace H : ((laws_toRow.f k l0).bind fun t481 => ((laws_toWalkerS.f k l1).bind fun t484 => ((laws_toRow.f k l3).bind fun t487 => ((impl_MissedWalks.f k t481 t484 a2 t487).bind fun bt490 => ((laws_eqInt64A2S.f k bt490.1 t477).bind fun t494 => (if t494 = true then (laws_FnExactMissedWalks.j0 k l0 l1 a2 l3 t477 t478 t481 t484 t487 bt490.1 bt490.2 (bt490.2 != t478)) else (laws_FnExactMissedWalks.j0 k l0 l1 a2 l3 t477 t478 t481 t484 t487 bt490.1 bt490.2 true))))))) = some r := H
        have A12 := Aside0.mk A120
        clear A120
        replace H := Option.bind_eq_some_iff.mp H
        obtain ⟨t481, A130, H⟩ := H
        replace H : ((laws_toWalkerS.f k l1).bind fun t484 => ((laws_toRow.f k l3).bind fun t487 => ((impl_MissedWalks.f k t481 t484 a2 t487).bind fun bt490 => ((laws_eqInt64A2S.f k bt490.1 t477).bind fun t494 => (if t494 = true then (laws_FnExactMissedWalks.j0 k l0 l1 a2 l3 t477 t478 t481 t484 t487 bt490.1 bt490.2 (bt490.2 != t478)) else (laws_FnExactMissedWalks.j0 k l0 l1 a2 l3 t477 t478 t481 t484 t487 bt490.1 bt490.2 true)))))) = some r := H
        have A13 := Aside0.mk A130
        clear A130
        replace H := Option.bind_eq_some_iff.mp H
        obtain ⟨t484, A140, H⟩ := H
        replace H : ((laws_toRow.f k l3).bind fun t487 => ((impl_MissedWalks.f k t481 t484 a2 t487).bind fun bt490 => ((laws_eqInt64A2S.f k bt490.1 t477).bind fun t494 => (if t494 = true then (laws_FnExactMissedWalks.j0 k l0 l1 a2 l3 t477 t478 t481 t484 t487 bt490.1 bt490.2 (bt490.2 != t478)) else (laws_FnExactMissedWalks.j0 k l0 l1 a2 l3 t477 t478 t481 t484 t487 bt490.1 bt490.2 true))))) = some r := H
        have A14 := Aside0.mk A140
        clear A140
        replace H := Option.bind_eq_some_iff.mp H
        obtain ⟨t487, A150, H⟩ := H
        replace H : ((impl_MissedWalks.f k t481 t484 a2 t487).bind fun bt490 => ((laws_eqInt64A2S.f k bt490.1 t477).bind fun t494 => (if t494 = true then (laws_FnExactMissedWalks.j0 k l0 l1 a2 l3 t477 t478 t481 t484 t487 bt490.1 bt490.2 (bt490.2 != t478)) else (laws_FnExactMissedWalks.j0 k l0 l1 a2 l3 t477 t478 t481 t484 t487 bt490.1 bt490.2 true)))) = some r := H
        have A15 := Aside0.mk A150
        clear A150
        replace H := Option.bind_eq_some_iff.mp H
        obtain ⟨⟨t490, t491⟩, A160, H⟩ := H
        replace H : ((laws_eqInt64A2S.f k t490 t477).bind fun t494 => (if t494 = true then (laws_FnExactMissedWalks.j0 k l0 l1 a2 l3 t477 t478 t481 t484 t487 t490 t491 (t491 != t478)) else (laws_FnExactMissedWalks.j0 k l0 l1 a2 l3 t477 t478 t481 t484 t487 t490 t491 true))) = some r := H
        have A16 := Aside0.mk A160
        clear A160
        have HC17 := Aside0.mk H
        clear H
        go_enter Try.func5, Try.ntmps5
        go_upto_region 14 with (first | ((with_reducible refine gate_callee (f := 21) rfl ?_); refine goesL_ (some 30) rfl rfl Try.func21 (by kernel_rfl) rfl #[.slice A1 l1.length c1, .int .i64 1048576] rfl (by (try simp only [List.map_toArray, List.map_cons, List.map_nil]); first | done | rfl | (simp only [List.length_drop, List.length_take]; rfl)) ?_; (with_reducible refine (laws_szWalkerS.calls _ _ l1 1048576 t467 _ ?side1 ?side2 A7.out).mono ?_); (case side1 => repeat (first | exact HR1.out | (with_reducible refine Kd.C_alloc ?_ _) | (with_reducible refine Kd.C_drewN ?_ _) | (with_reducible refine Kd.C_drew ?_))); (case side2 => exact HC1.out); rintro e w' ⟨rfl, ⟨nd, rfl⟩⟩; refine ⟨_, rfl, ?_⟩) | ((with_reducible refine gate_callee (f := 23) rfl ?_); refine goesL_ (some 35) rfl rfl Try.func23 (by kernel_rfl) rfl #[.slice A0 l0.length c0] rfl (by (try simp only [List.map_toArray, List.map_cons, List.map_nil]); first | done | rfl | (simp only [List.length_drop, List.length_take]; rfl)) ?_; (with_reducible refine (laws_toRow.calls k _ _ l0 t468 _ ?side1 ?side2 A9.out).mono ?_); (case side1 => repeat (first | exact HR0.out | (with_reducible refine Kd.C_alloc ?_ _) | (with_reducible refine Kd.C_drewN ?_ _) | (with_reducible refine Kd.C_drew ?_))); (case side2 => exact HC0.out); rintro e w18 ⟨v469, rfl, ho0, hb⟩; refine ⟨_, rfl, ?_⟩; have n0_ := Aside0.mk (Kd.R_lower ho0 (below_size (by repeat (first | (with_reducible first | exact HB.out | apply below_alloc | apply pw_below_drewN | apply below_drew1) | exact HB.out)))); have n1_ := Aside0.mk (below_step (by repeat (first | (with_reducible first | exact HB.out | apply below_alloc | apply pw_below_drewN | apply below_drew1) | exact HB.out)) hb); clear HB; have HO470 := n0_; have HB := n1_; clear n0_ n1_; (try clear hb); (try clear hb2); (try clear hk); (try clear hi); (try clear ho0)) | ((with_reducible refine gate_callee (f := 24) rfl ?_); refine goesL_ (some 37) rfl rfl Try.func24 (by kernel_rfl) rfl #[.slice A1 l1.length c1] rfl (by (try simp only [List.map_toArray, List.map_cons, List.map_nil]); first | done | rfl | (simp only [List.length_drop, List.length_take]; rfl)) ?_; (with_reducible refine (laws_toWalkerS.calls k _ _ l1 t471 _ ?side1 ?side2 A10.out).mono ?_); (case side1 => repeat (first | exact (Kd.C_below HR1.out HB.out) | (with_reducible refine Kd.C_alloc ?_ _) | (with_reducible refine Kd.C_drewN ?_ _) | (with_reducible refine Kd.C_drew ?_))); (case side2 => exact HC1.out); rintro e w19 ⟨v472, rfl, ho0, hb⟩; refine ⟨_, rfl, ?_⟩; have n0_ := Aside0.mk (Kd.R_below (by (with_reducible repeat (first | apply Kd.R_alloc | apply Kd.R_drewN | apply Kd.R_drew)); exact HO470.out) hb); have n1_ := Aside0.mk (Kd.R_lower ho0 (below_size (by repeat (first | (with_reducible first | exact HB.out | apply below_alloc | apply pw_below_drewN | apply below_drew1) | exact HB.out)))); have n2_ := Aside0.mk (below_step (by repeat (first | (with_reducible first | exact HB.out | apply below_alloc | apply pw_below_drewN | apply below_drew1) | exact HB.out)) hb); clear HO470; clear HB; have HO470 := n0_; have HO473 := n1_; have HB := n2_; clear n0_ n1_ n2_; (try clear hb); (try clear hb2); (try clear hk); (try clear hi); (try clear ho0)) | ((with_reducible refine gate_callee (f := 23) rfl ?_); refine goesL_ (some 40) rfl rfl Try.func23 (by kernel_rfl) rfl #[.slice A3 l3.length c3] rfl (by (try simp only [List.map_toArray, List.map_cons, List.map_nil]); first | done | rfl | (simp only [List.length_drop, List.length_take]; rfl)) ?_; (with_reducible refine (laws_toRow.calls k _ _ l3 t474 _ ?side1 ?side2 A11.out).mono ?_); (case side1 => repeat (first | exact (Kd.C_below HR3.out HB.out) | (with_reducible refine Kd.C_alloc ?_ _) | (with_reducible refine Kd.C_drewN ?_ _) | (with_reducible refine Kd.C_drew ?_))); (case side2 => exact HC3.out); rintro e w20 ⟨v475, rfl, ho0, hb⟩; refine ⟨_, rfl, ?_⟩; have n0_ := Aside0.mk (Kd.R_elder' (by (with_reducible repeat (first | apply Kd.R_alloc | apply Kd.R_drewN | apply Kd.R_drew)); exact HO470.out) (Kd.R_base ho0) hb); have n1_ := Aside0.mk (Kd.R_below (by (with_reducible repeat (first | apply Kd.R_alloc | apply Kd.R_drewN | apply Kd.R_drew)); exact HO473.out) hb); have n2_ := Aside0.mk (Kd.R_lower (Kd.R_new' ho0 (Kd.R_lt (by (with_reducible repeat (first | apply Kd.R_alloc | apply Kd.R_drewN | apply Kd.R_drew)); exact HO470.out))) (below_size (by repeat (first | (with_reducible first | exact HB.out | apply below_alloc | apply pw_below_drewN | apply below_drew1) | exact HB.out)))); have n3_ := Aside0.mk (below_step (by repeat (first | (with_reducible first | exact HB.out | apply below_alloc | apply pw_below_drewN | apply below_drew1) | exact HB.out)) hb); clear HO470; clear HO473; clear HB; have HO470 := n0_; have HO473 := n1_; have HO476 := n2_; have HB := n3_; clear n0_ n1_ n2_ n3_; (try clear hb); (try clear hb2); (try clear hk); (try clear hi); (try clear ho0); obtain ⟨Ao21, co21, eo21⟩ := Kd.R_slice HO470.out; subst eo21; obtain ⟨Ao22, co22, eo22⟩ := Kd.R_slice HO473.out; subst eo22; obtain ⟨Ao23, co23, eo23⟩ := Kd.R_slice HO476.out; subst eo23) | ((with_reducible refine gate_callee (f := 14) rfl ?_); refine goesL_ (some 41) rfl rfl Try.func14 (by kernel_rfl) rfl #[.slice Ao21 t468.length co21, .slice Ao22 t471.length co22, .int .i64 a2, .slice Ao23 t474.length co23] rfl (by (try simp only [List.map_toArray, List.map_cons, List.map_nil]); first | done | rfl | (simp only [List.length_drop, List.length_take]; rfl)) ?_; (with_reducible refine (spec_MissedWalks.calls k _ _ t468 _ _ t471 a2 _ _ t474 t477 t478 _ ?side1 ?side2 ?side3 ?side4 ?side5 ?side6 A12.out).mono ?_); (case side1 => repeat (first | exact (Kd.R_reads' HO470.out).2.2 | (with_reducible refine Kd.C_alloc ?_ _) | (with_reducible refine Kd.C_drewN ?_ _) | (with_reducible refine Kd.C_drew ?_))); (case side2 => exact (Kd.R_reads' HO470.out).2.1); (case side3 => repeat (first | exact (Kd.R_reads' HO473.out).2.2 | (with_reducible refine Kd.C_alloc ?_ _) | (with_reducible refine Kd.C_drewN ?_ _) | (with_reducible refine Kd.C_drew ?_))); (case side4 => exact (Kd.R_reads' HO473.out).2.1); (case side5 => repeat (first | exact (Kd.R_reads' HO476.out).2.2 | (with_reducible refine Kd.C_alloc ?_ _) | (with_reducible refine Kd.C_drewN ?_ _) | (with_reducible refine Kd.C_drew ?_))); (case side6 => exact (Kd.R_reads' HO476.out).2.1); rintro e w24 ⟨v479, rfl, ho0, hb⟩; refine ⟨_, rfl, ?_⟩; have n0_ := Aside0.mk (Kd.R_below (by (with_reducible repeat (first | apply Kd.R_alloc | apply Kd.R_drewN | apply Kd.R_drew)); exact HO470.out) hb); have n1_ := Aside0.mk (Kd.R_below (by (with_reducible repeat (first | apply Kd.R_alloc | apply Kd.R_drewN | apply Kd.R_drew)); exact HO473.out) hb); have n2_ := Aside0.mk (Kd.R_below (by (with_reducible repeat (first | apply Kd.R_alloc | apply Kd.R_drewN | apply Kd.R_drew)); exact HO476.out) hb); have n3_ := Aside0.mk (Kd.R_lower ho0 (below_size (by repeat (first | (with_reducible first | exact HB.out | apply below_alloc | apply pw_below_drewN | apply below_drew1) | exact HB.out)))); have n4_ := Aside0.mk (below_step (by repeat (first | (with_reducible first | exact HB.out | apply below_alloc | apply pw_below_drewN | apply below_drew1) | exact HB.out)) hb); clear HO470; clear HO473; clear HO476; clear HB; have HO470 := n0_; have HO473 := n1_; have HO476 := n2_; have HO480 := n3_; have HB := n4_; clear n0_ n1_ n2_ n3_ n4_; (try clear hb); (try clear hb2); (try clear hk); (try clear hi); (try clear ho0)) | ((with_reducible refine gate_callee (f := 23) rfl ?_); refine goesL_ (some 45) rfl rfl Try.func23 (by kernel_rfl) rfl #[.slice A0 l0.length c0] rfl (by (try simp only [List.map_toArray, List.map_cons, List.map_nil]); first | done | rfl | (simp only [List.length_drop, List.length_take]; rfl)) ?_; (with_reducible refine (laws_toRow.calls k _ _ l0 t481 _ ?side1 ?side2 A13.out).mono ?_); (case side1 => repeat (first | exact (Kd.C_below HR0.out HB.out) | (with_reducible refine Kd.C_alloc ?_ _) | (with_reducible refine Kd.C_drewN ?_ _) | (with_reducible refine Kd.C_drew ?_))); (case side2 => exact HC0.out); rintro e w25 ⟨v482, rfl, ho0, hb⟩; refine ⟨_, rfl, ?_⟩; have n0_ := Aside0.mk (Kd.R_elder' (by (with_reducible repeat (first | apply Kd.R_alloc | apply Kd.R_drewN | apply Kd.R_drew)); exact HO470.out) (Kd.R_base ho0) hb); have n1_ := Aside0.mk (Kd.R_below (by (with_reducible repeat (first | apply Kd.R_alloc | apply Kd.R_drewN | apply Kd.R_drew)); exact HO473.out) hb); have n2_ := Aside0.mk (Kd.R_elder' (by (with_reducible repeat (first | apply Kd.R_alloc | apply Kd.R_drewN | apply Kd.R_drew)); exact HO476.out) (Kd.R_base ho0) hb); have n3_ := Aside0.mk (Kd.R_below (by (with_reducible repeat (first | apply Kd.R_alloc | apply Kd.R_drewN | apply Kd.R_drew)); exact HO480.out) hb); have n4_ := Aside0.mk (Kd.R_lower (Kd.R_new' (Kd.R_new' ho0 (Kd.R_lt (by (with_reducible repeat (first | apply Kd.R_alloc | apply Kd.R_drewN | apply Kd.R_drew)); exact HO470.out))) (Kd.R_lt (by (with_reducible repeat (first | apply Kd.R_alloc | apply Kd.R_drewN | apply Kd.R_drew)); exact HO476.out))) (below_size (by repeat (first | (with_reducible first | exact HB.out | apply below_alloc | apply pw_below_drewN | apply below_drew1) | exact HB.out)))); have n5_ := Aside0.mk (below_step (by repeat (first | (with_reducible first | exact HB.out | apply below_alloc | apply pw_below_drewN | apply below_drew1) | exact HB.out)) hb); clear HO470; clear HO473; clear HO476; clear HO480; clear HB; have HO470 := n0_; have HO473 := n1_; have HO476 := n2_; have HO480 := n3_; have HO483 := n4_; have HB := n5_; clear n0_ n1_ n2_ n3_ n4_ n5_; (try clear hb); (try clear hb2); (try clear hk); (try clear hi); (try clear ho0)) | ((with_reducible refine gate_callee (f := 24) rfl ?_); refine goesL_ (some 47) rfl rfl Try.func24 (by kernel_rfl) rfl #[.slice A1 l1.length c1] rfl (by (try simp only [List.map_toArray, List.map_cons, List.map_nil]); first | done | rfl | (simp only [List.length_drop, List.length_take]; rfl)) ?_; (with_reducible refine (laws_toWalkerS.calls k _ _ l1 t484 _ ?side1 ?side2 A14.out).mono ?_); (case side1 => repeat (first | exact (Kd.C_below HR1.out HB.out) | (with_reducible refine Kd.C_alloc ?_ _) | (with_reducible refine Kd.C_drewN ?_ _) | (with_reducible refine Kd.C_drew ?_))); (case side2 => exact HC1.out); rintro e w26 ⟨v485, rfl, ho0, hb⟩; refine ⟨_, rfl, ?_⟩; have n0_ := Aside0.mk (Kd.R_below (by (with_reducible repeat (first | apply Kd.R_alloc | apply Kd.R_drewN | apply Kd.R_drew)); exact HO470.out) hb); have n1_ := Aside0.mk (Kd.R_elder' (by (with_reducible repeat (first | apply Kd.R_alloc | apply Kd.R_drewN | apply Kd.R_drew)); exact HO473.out) (Kd.R_base ho0) hb); have n2_ := Aside0.mk (Kd.R_below (by (with_reducible repeat (first | apply Kd.R_alloc | apply Kd.R_drewN | apply Kd.R_drew)); exact HO476.out) hb); have n3_ := Aside0.mk (Kd.R_below (by (with_reducible repeat (first | apply Kd.R_alloc | apply Kd.R_drewN | apply Kd.R_drew)); exact HO480.out) hb); have n4_ := Aside0.mk (Kd.R_below (by (with_reducible repeat (first | apply Kd.R_alloc | apply Kd.R_drewN | apply Kd.R_drew)); exact HO483.out) hb); have n5_ := Aside0.mk (Kd.R_lower (Kd.R_new' ho0 (Kd.R_lt (by (with_reducible repeat (first | apply Kd.R_alloc | apply Kd.R_drewN | apply Kd.R_drew)); exact HO473.out))) (below_size (by repeat (first | (with_reducible first | exact HB.out | apply below_alloc | apply pw_below_drewN | apply below_drew1) | exact HB.out)))); have n6_ := Aside0.mk (below_step (by repeat (first | (with_reducible first | exact HB.out | apply below_alloc | apply pw_below_drewN | apply below_drew1) | exact HB.out)) hb); clear HO470; clear HO473; clear HO476; clear HO480; clear HO483; clear HB; have HO470 := n0_; have HO473 := n1_; have HO476 := n2_; have HO480 := n3_; have HO483 := n4_; have HO486 := n5_; have HB := n6_; clear n0_ n1_ n2_ n3_ n4_ n5_ n6_; (try clear hb); (try clear hb2); (try clear hk); (try clear hi); (try clear ho0)) | ((with_reducible refine gate_callee (f := 23) rfl ?_); refine goesL_ (some 49) rfl rfl Try.func23 (by kernel_rfl) rfl #[.slice A3 l3.length c3] rfl (by (try simp only [List.map_toArray, List.map_cons, List.map_nil]); first | done | rfl | (simp only [List.length_drop, List.length_take]; rfl)) ?_; (with_reducible refine (laws_toRow.calls k _ _ l3 t487 _ ?side1 ?side2 A15.out).mono ?_); (case side1 => repeat (first | exact (Kd.C_below HR3.out HB.out) | (with_reducible refine Kd.C_alloc ?_ _) | (with_reducible refine Kd.C_drewN ?_ _) | (with_reducible refine Kd.C_drew ?_))); (case side2 => exact HC3.out); rintro e w27 ⟨v488, rfl, ho0, hb⟩; refine ⟨_, rfl, ?_⟩; have n0_ := Aside0.mk (Kd.R_elder' (by (with_reducible repeat (first | apply Kd.R_alloc | apply Kd.R_drewN | apply Kd.R_drew)); exact HO470.out) (Kd.R_base ho0) hb); have n1_ := Aside0.mk (Kd.R_below (by (with_reducible repeat (first | apply Kd.R_alloc | apply Kd.R_drewN | apply Kd.R_drew)); exact HO473.out) hb); have n2_ := Aside0.mk (Kd.R_elder' (by (with_reducible repeat (first | apply Kd.R_alloc | apply Kd.R_drewN | apply Kd.R_drew)); exact HO476.out) (Kd.R_base ho0) hb); have n3_ := Aside0.mk (Kd.R_below (by (with_reducible repeat (first | apply Kd.R_alloc | apply Kd.R_drewN | apply Kd.R_drew)); exact HO480.out) hb); have n4_ := Aside0.mk (Kd.R_elder' (by (with_reducible repeat (first | apply Kd.R_alloc | apply Kd.R_drewN | apply Kd.R_drew)); exact HO483.out) (Kd.R_base ho0) hb); have n5_ := Aside0.mk (Kd.R_below (by (with_reducible repeat (first | apply Kd.R_alloc | apply Kd.R_drewN | apply Kd.R_drew)); exact HO486.out) hb); have n6_ := Aside0.mk (Kd.R_lower (Kd.R_new' (Kd.R_new' (Kd.R_new' ho0 (Kd.R_lt (by (with_reducible repeat (first | apply Kd.R_alloc | apply Kd.R_drewN | apply Kd.R_drew)); exact HO470.out))) (Kd.R_lt (by (with_reducible repeat (first | apply Kd.R_alloc | apply Kd.R_drewN | apply Kd.R_drew)); exact HO476.out))) (Kd.R_lt (by (with_reducible repeat (first | apply Kd.R_alloc | apply Kd.R_drewN | apply Kd.R_drew)); exact HO483.out))) (below_size (by repeat (first | (with_reducible first | exact HB.out | apply below_alloc | apply pw_below_drewN | apply below_drew1) | exact HB.out)))); have n7_ := Aside0.mk (below_step (by repeat (first | (with_reducible first | exact HB.out | apply below_alloc | apply pw_below_drewN | apply below_drew1) | exact HB.out)) hb); clear HO470; clear HO473; clear HO476; clear HO480; clear HO483; clear HO486; clear HB; have HO470 := n0_; have HO473 := n1_; have HO476 := n2_; have HO480 := n3_; have HO483 := n4_; have HO486 := n5_; have HO489 := n6_; have HB := n7_; clear n0_ n1_ n2_ n3_ n4_ n5_ n6_ n7_; (try clear hb); (try clear hb2); (try clear hk); (try clear hi); (try clear ho0); obtain ⟨Ao28, co28, eo28⟩ := Kd.R_slice HO483.out; subst eo28; obtain ⟨Ao29, co29, eo29⟩ := Kd.R_slice HO486.out; subst eo29; obtain ⟨Ao30, co30, eo30⟩ := Kd.R_slice HO489.out; subst eo30) | ((with_reducible refine gate_callee (f := 13) rfl ?_); refine goesL_ (some 55) rfl rfl Try.func13 (by kernel_rfl) rfl #[.slice Ao28 t481.length co28, .slice Ao29 t484.length co29, .int .i64 a2, .slice Ao30 t487.length co30] rfl (by (try simp only [List.map_toArray, List.map_cons, List.map_nil]); first | done | rfl | (simp only [List.length_drop, List.length_take]; rfl)) ?_; (with_reducible refine (impl_MissedWalks.calls k _ _ t481 _ _ t484 a2 _ _ t487 t490 t491 _ ?side1 ?side2 ?side3 ?side4 ?side5 ?side6 A16.out).mono ?_); (case side1 => repeat (first | exact (Kd.R_reads' HO483.out).2.2 | (with_reducible refine Kd.C_alloc ?_ _) | (with_reducible refine Kd.C_drewN ?_ _) | (with_reducible refine Kd.C_drew ?_))); (case side2 => exact (Kd.R_reads' HO483.out).2.1); (case side3 => repeat (first | exact (Kd.R_reads' HO486.out).2.2 | (with_reducible refine Kd.C_alloc ?_ _) | (with_reducible refine Kd.C_drewN ?_ _) | (with_reducible refine Kd.C_drew ?_))); (case side4 => exact (Kd.R_reads' HO486.out).2.1); (case side5 => repeat (first | exact (Kd.R_reads' HO489.out).2.2 | (with_reducible refine Kd.C_alloc ?_ _) | (with_reducible refine Kd.C_drewN ?_ _) | (with_reducible refine Kd.C_drew ?_))); (case side6 => exact (Kd.R_reads' HO489.out).2.1); rintro e w31 ⟨v492, rfl, ho0, hb⟩; refine ⟨_, rfl, ?_⟩; have n0_ := Aside0.mk (Kd.R_below (by (with_reducible repeat (first | apply Kd.R_alloc | apply Kd.R_drewN | apply Kd.R_drew)); exact HO470.out) hb); have n1_ := Aside0.mk (Kd.R_below (by (with_reducible repeat (first | apply Kd.R_alloc | apply Kd.R_drewN | apply Kd.R_drew)); exact HO473.out) hb); have n2_ := Aside0.mk (Kd.R_below (by (with_reducible repeat (first | apply Kd.R_alloc | apply Kd.R_drewN | apply Kd.R_drew)); exact HO476.out) hb); have n3_ := Aside0.mk (Kd.R_elder' (by (with_reducible repeat (first | apply Kd.R_alloc | apply Kd.R_drewN | apply Kd.R_drew)); exact HO480.out) (Kd.R_base ho0) hb); have n4_ := Aside0.mk (Kd.R_below (by (with_reducible repeat (first | apply Kd.R_alloc | apply Kd.R_drewN | apply Kd.R_drew)); exact HO483.out) hb); have n5_ := Aside0.mk (Kd.R_below (by (with_reducible repeat (first | apply Kd.R_alloc | apply Kd.R_drewN | apply Kd.R_drew)); exact HO486.out) hb); have n6_ := Aside0.mk (Kd.R_below (by (with_reducible repeat (first | apply Kd.R_alloc | apply Kd.R_drewN | apply Kd.R_drew)); exact HO489.out) hb); have n7_ := Aside0.mk (Kd.R_lower (Kd.R_new' ho0 (Kd.R_lt (by (with_reducible repeat (first | apply Kd.R_alloc | apply Kd.R_drewN | apply Kd.R_drew)); exact HO480.out))) (below_size (by repeat (first | (with_reducible first | exact HB.out | apply below_alloc | apply pw_below_drewN | apply below_drew1) | exact HB.out)))); have n8_ := Aside0.mk (below_step (by repeat (first | (with_reducible first | exact HB.out | apply below_alloc | apply pw_below_drewN | apply below_drew1) | exact HB.out)) hb); clear HO470; clear HO473; clear HO476; clear HO480; clear HO483; clear HO486; clear HO489; clear HB; have HO470 := n0_; have HO473 := n1_; have HO476 := n2_; have HO480 := n3_; have HO483 := n4_; have HO486 := n5_; have HO489 := n6_; have HO493 := n7_; have HB := n8_; clear n0_ n1_ n2_ n3_ n4_ n5_ n6_ n7_ n8_; (try clear hb); (try clear hb2); (try clear hk); (try clear hi); (try clear ho0)))
        (try simp only [Act.put, List.setIfInBounds_toArray, List.set_cons_zero, List.set_cons_succ])
        go_cut [66] (fun v66 wc => ∃ (kq : Nat) (x66_16 : Bool), v66 = .bool x66_16 ∧ Aside0 (laws_FnExactMissedWalks.j0 kq l0 l1 a2 l3 t477 t478 t481 t484 t487 t490 t491 x66_16 = some r) ∧ Aside0 (kq ≤ k) ∧ Aside0 (Kd.R k40 40 wc w.heap.size (fun k_ => some k_ ≠ (v492 : Value).ownBlock) v479 t477) ∧ Aside0 (Kd.R (Kd.int .u8) 5 wc w.heap.size (fun k_ => some k_ ≠ ((.slice Ao30 t487.length co30) : Value).ownBlock) (.slice Ao28 t481.length co28) t481) ∧ Aside0 (Kd.R k38 38 wc w.heap.size (fun _ => True) (.slice Ao29 t484.length co29) t484) ∧ Aside0 (Kd.R (Kd.int .u8) 5 wc w.heap.size (fun k_ => some k_ ≠ ((.slice Ao28 t481.length co28) : Value).ownBlock) (.slice Ao30 t487.length co30) t487) ∧ Aside0 (Kd.R k40 40 wc w.heap.size (fun k_ => some k_ ≠ (v479 : Value).ownBlock) v492 t490) ∧ Aside0 (Below w.heap.size w wc))
        case first =>
          have H := HC17.out
          clear HC17
          replace H := Option.bind_eq_some_iff.mp H
          obtain ⟨t494, A320, H⟩ := H
          replace H : (if t494 = true then (laws_FnExactMissedWalks.j0 k l0 l1 a2 l3 t477 t478 t481 t484 t487 t490 t491 (t491 != t478)) else (laws_FnExactMissedWalks.j0 k l0 l1 a2 l3 t477 t478 t481 t484 t487 t490 t491 true)) = some r := H
          have A32 := Aside0.mk A320
          clear A320
          by_cases c33 : t494 = true
          · subst c33
            have H1 : (laws_FnExactMissedWalks.j0 k l0 l1 a2 l3 t477 t478 t481 t484 t487 t490 t491 (t491 != t478)) = some r := by rw [if_pos rfl] at H; exact H
            clear H
            have H := H1
            clear H1
            have H' := Aside0.mk H
            clear H
            obtain ⟨Ao34, co34, eo34⟩ := Kd.R_slice HO493.out
            subst eo34
            obtain ⟨Ao35, co35, eo35⟩ := Kd.R_slice HO480.out
            subst eo35
            go_wp2_with (first | ((with_reducible refine gate_callee (f := 33) rfl ?_); refine goesL_ (some 60) rfl rfl Try.func33 (by kernel_rfl) rfl #[.slice Ao34 t490.length co34, .slice Ao35 t477.length co35] rfl (by (try simp only [List.map_toArray, List.map_cons, List.map_nil]); first | done | rfl | (simp only [List.length_drop, List.length_take]; rfl)) ?_; (with_reducible refine (laws_eqInt64A2S.calls k _ _ t490 _ _ t477 true _ ?side1 ?side2 ?side3 ?side4 A32.out).mono ?_); (case side1 => repeat (first | exact (Kd.R_reads' HO493.out).2.2 | (with_reducible refine Kd.C_alloc ?_ _) | (with_reducible refine Kd.C_drewN ?_ _) | (with_reducible refine Kd.C_drew ?_))); (case side2 => exact (Kd.R_reads' HO493.out).2.1); (case side3 => repeat (first | exact (Kd.R_reads' HO480.out).2.2 | (with_reducible refine Kd.C_alloc ?_ _) | (with_reducible refine Kd.C_drewN ?_ _) | (with_reducible refine Kd.C_drew ?_))); (case side4 => exact (Kd.R_reads' HO480.out).2.1); rintro e w36 ⟨rfl, hb⟩; refine ⟨_, rfl, ?_⟩; have n0_ := Aside0.mk (Kd.R_below (by (with_reducible repeat (first | apply Kd.R_alloc | apply Kd.R_drewN | apply Kd.R_drew)); exact HO470.out) hb); have n1_ := Aside0.mk (Kd.R_below (by (with_reducible repeat (first | apply Kd.R_alloc | apply Kd.R_drewN | apply Kd.R_drew)); exact HO473.out) hb); have n2_ := Aside0.mk (Kd.R_below (by (with_reducible repeat (first | apply Kd.R_alloc | apply Kd.R_drewN | apply Kd.R_drew)); exact HO476.out) hb); have n3_ := Aside0.mk (Kd.R_below (by (with_reducible repeat (first | apply Kd.R_alloc | apply Kd.R_drewN | apply Kd.R_drew)); exact HO480.out) hb); have n4_ := Aside0.mk (Kd.R_below (by (with_reducible repeat (first | apply Kd.R_alloc | apply Kd.R_drewN | apply Kd.R_drew)); exact HO483.out) hb); have n5_ := Aside0.mk (Kd.R_below (by (with_reducible repeat (first | apply Kd.R_alloc | apply Kd.R_drewN | apply Kd.R_drew)); exact HO486.out) hb); have n6_ := Aside0.mk (Kd.R_below (by (with_reducible repeat (first | apply Kd.R_alloc | apply Kd.R_drewN | apply Kd.R_drew)); exact HO489.out) hb); have n7_ := Aside0.mk (Kd.R_below (by (with_reducible repeat (first | apply Kd.R_alloc | apply Kd.R_drewN | apply Kd.R_drew)); exact HO493.out) hb); have n8_ := Aside0.mk (below_step (by repeat (first | (with_reducible first | exact HB.out | apply below_alloc | apply pw_below_drewN | apply below_drew1) | exact HB.out)) hb); clear HO470; clear HO473; clear HO476; clear HO480; clear HO483; clear HO486; clear HO489; clear HO493; clear HB; have HO470 := n0_; have HO473 := n1_; have HO476 := n2_; have HO480 := n3_; have HO483 := n4_; have HO486 := n5_; have HO489 := n6_; have HO493 := n7_; have HB := n8_; clear n0_ n1_ n2_ n3_ n4_ n5_ n6_ n7_ n8_; (try clear hb); (try clear hb2); (try clear hk); (try clear hi)))
            go_meet
            case rel => exact ⟨_, ((t491 != t478)), (by first | rfl | (simp; done) | (simp [*]; done)), H', ⟨by first | omega | exact Nat.le_refl _⟩, ⟨by (with_reducible repeat (first | apply Kd.R_alloc | apply Kd.R_drewN | apply Kd.R_drew)); exact Kd.R_mono HO480.out (fun _ hk => hk.2)⟩, ⟨by (with_reducible repeat (first | apply Kd.R_alloc | apply Kd.R_drewN | apply Kd.R_drew)); exact Kd.R_mono HO483.out (fun _ hk => hk.2)⟩, ⟨by (with_reducible repeat (first | apply Kd.R_alloc | apply Kd.R_drewN | apply Kd.R_drew)); exact Kd.R_mono HO486.out (fun _ hk => trivial)⟩, ⟨by (with_reducible repeat (first | apply Kd.R_alloc | apply Kd.R_drewN | apply Kd.R_drew)); exact Kd.R_mono HO489.out (fun _ hk => hk.2)⟩, ⟨by (with_reducible repeat (first | apply Kd.R_alloc | apply Kd.R_drewN | apply Kd.R_drew)); exact Kd.R_mono HO493.out (fun _ hk => hk.2)⟩, ⟨by repeat (first | (with_reducible first | exact HB.out | apply below_alloc | apply pw_below_drewN | apply below_drew1) | exact HB.out)⟩⟩
          · replace c33 := Bool.eq_false_iff.mpr c33
            subst c33
            have H1 : (laws_FnExactMissedWalks.j0 k l0 l1 a2 l3 t477 t478 t481 t484 t487 t490 t491 true) = some r := by rw [if_neg (show ¬ (false = true) by decide)] at H; exact H
            clear H
            have H := H1
            clear H1
            have H' := Aside0.mk H
            clear H
            obtain ⟨Ao37, co37, eo37⟩ := Kd.R_slice HO493.out
            subst eo37
            obtain ⟨Ao38, co38, eo38⟩ := Kd.R_slice HO480.out
            subst eo38
            go_wp2_with (first | ((with_reducible refine gate_callee (f := 33) rfl ?_); refine goesL_ (some 60) rfl rfl Try.func33 (by kernel_rfl) rfl #[.slice Ao37 t490.length co37, .slice Ao38 t477.length co38] rfl (by (try simp only [List.map_toArray, List.map_cons, List.map_nil]); first | done | rfl | (simp only [List.length_drop, List.length_take]; rfl)) ?_; (with_reducible refine (laws_eqInt64A2S.calls k _ _ t490 _ _ t477 false _ ?side1 ?side2 ?side3 ?side4 A32.out).mono ?_); (case side1 => repeat (first | exact (Kd.R_reads' HO493.out).2.2 | (with_reducible refine Kd.C_alloc ?_ _) | (with_reducible refine Kd.C_drewN ?_ _) | (with_reducible refine Kd.C_drew ?_))); (case side2 => exact (Kd.R_reads' HO493.out).2.1); (case side3 => repeat (first | exact (Kd.R_reads' HO480.out).2.2 | (with_reducible refine Kd.C_alloc ?_ _) | (with_reducible refine Kd.C_drewN ?_ _) | (with_reducible refine Kd.C_drew ?_))); (case side4 => exact (Kd.R_reads' HO480.out).2.1); rintro e w39 ⟨rfl, hb⟩; refine ⟨_, rfl, ?_⟩; have n0_ := Aside0.mk (Kd.R_below (by (with_reducible repeat (first | apply Kd.R_alloc | apply Kd.R_drewN | apply Kd.R_drew)); exact HO470.out) hb); have n1_ := Aside0.mk (Kd.R_below (by (with_reducible repeat (first | apply Kd.R_alloc | apply Kd.R_drewN | apply Kd.R_drew)); exact HO473.out) hb); have n2_ := Aside0.mk (Kd.R_below (by (with_reducible repeat (first | apply Kd.R_alloc | apply Kd.R_drewN | apply Kd.R_drew)); exact HO476.out) hb); have n3_ := Aside0.mk (Kd.R_below (by (with_reducible repeat (first | apply Kd.R_alloc | apply Kd.R_drewN | apply Kd.R_drew)); exact HO480.out) hb); have n4_ := Aside0.mk (Kd.R_below (by (with_reducible repeat (first | apply Kd.R_alloc | apply Kd.R_drewN | apply Kd.R_drew)); exact HO483.out) hb); have n5_ := Aside0.mk (Kd.R_below (by (with_reducible repeat (first | apply Kd.R_alloc | apply Kd.R_drewN | apply Kd.R_drew)); exact HO486.out) hb); have n6_ := Aside0.mk (Kd.R_below (by (with_reducible repeat (first | apply Kd.R_alloc | apply Kd.R_drewN | apply Kd.R_drew)); exact HO489.out) hb); have n7_ := Aside0.mk (Kd.R_below (by (with_reducible repeat (first | apply Kd.R_alloc | apply Kd.R_drewN | apply Kd.R_drew)); exact HO493.out) hb); have n8_ := Aside0.mk (below_step (by repeat (first | (with_reducible first | exact HB.out | apply below_alloc | apply pw_below_drewN | apply below_drew1) | exact HB.out)) hb); clear HO470; clear HO473; clear HO476; clear HO480; clear HO483; clear HO486; clear HO489; clear HO493; clear HB; have HO470 := n0_; have HO473 := n1_; have HO476 := n2_; have HO480 := n3_; have HO483 := n4_; have HO486 := n5_; have HO489 := n6_; have HO493 := n7_; have HB := n8_; clear n0_ n1_ n2_ n3_ n4_ n5_ n6_ n7_ n8_; (try clear hb); (try clear hb2); (try clear hk); (try clear hi)))
            go_meet
            case rel => exact ⟨_, (true), (by first | rfl | (simp; done) | (simp [*]; done)), H', ⟨by first | omega | exact Nat.le_refl _⟩, ⟨by (with_reducible repeat (first | apply Kd.R_alloc | apply Kd.R_drewN | apply Kd.R_drew)); exact Kd.R_mono HO480.out (fun _ hk => hk.2)⟩, ⟨by (with_reducible repeat (first | apply Kd.R_alloc | apply Kd.R_drewN | apply Kd.R_drew)); exact Kd.R_mono HO483.out (fun _ hk => hk.2)⟩, ⟨by (with_reducible repeat (first | apply Kd.R_alloc | apply Kd.R_drewN | apply Kd.R_drew)); exact Kd.R_mono HO486.out (fun _ hk => trivial)⟩, ⟨by (with_reducible repeat (first | apply Kd.R_alloc | apply Kd.R_drewN | apply Kd.R_drew)); exact Kd.R_mono HO489.out (fun _ hk => hk.2)⟩, ⟨by (with_reducible repeat (first | apply Kd.R_alloc | apply Kd.R_drewN | apply Kd.R_drew)); exact Kd.R_mono HO493.out (fun _ hk => hk.2)⟩, ⟨by repeat (first | (with_reducible first | exact HB.out | apply below_alloc | apply pw_below_drewN | apply below_drew1) | exact HB.out)⟩⟩
        case rest =>
          clear HC17
          try clear c1
          try clear c2
          try clear p2
          try clear c3
          try clear c5
          try clear c5b0
          try clear c5b1
          try clear c6
          try clear c6b0
          try clear c6b1
          try clear c8
          try clear c8b0
          try clear c13
          try clear c14
          try clear c21
          try clear c23
          try clear c24
          try clear c33
          obtain ⟨kq, x66_16, rfl, HA, HJ16, HO_10, HO_12, HO_13, HO_14, HO_15, HB⟩ := hcut
          cases kq with
          | zero => exact absurd HA.out (by simp [laws_FnExactMissedWalks.j0])
          | succ kj16 =>
            have H := HA.out
            clear HA
            simp only [laws_FnExactMissedWalks.j0] at H
            by_cases c40 : x66_16 = true
            · subst c40
              have H1 : (some false) = some r := by rw [if_pos rfl] at H; exact H
              clear H
              have H := H1
              clear H1
              exact absurd ((Option.some.inj H).trans HTrue_.out) (by decide)
            · replace c40 := Bool.eq_false_iff.mpr c40
              subst c40
              have H1 : ((laws_toRow.f kj16 l0).bind fun t495 => ((laws_eqRow.f kj16 t481 t495).bind fun t498 => (if t498 = true then ((laws_toWalkerS.f kj16 l1).bind fun t499 => ((laws_eqWalkerS.f kj16 t484 t499).bind fun t502 => (if t502 = true then ((laws_toRow.f kj16 l3).bind fun t503 => ((laws_eqRow.f kj16 t487 t503).bind fun t506 => (if t506 = true then ((laws_markRow.f kj16 t481 1).bind fun bt507 => ((laws_markWalkerS.f kj16 t484 bt507.1).bind fun bt509 => ((laws_markRow.f kj16 t487 bt509.1).bind fun bt511 => (if bt511.1 < 0 then (laws_FnExactMissedWalks.j1 kj16 l0 l1 a2 l3 t477 t478 t490 true) else ((laws_eqInt64A2S.f kj16 t490 t477).bind fun t513 => (if t513 = true then (laws_FnExactMissedWalks.j1 kj16 l0 l1 a2 l3 t477 t478 t490 (t491 != t478)) else (laws_FnExactMissedWalks.j1 kj16 l0 l1 a2 l3 t477 t478 t490 true))))))) else (some false)))) else (some false)))) else (some false)))) = some r := by rw [if_neg (show ¬ (false = true) by decide)] at H; exact H
              clear H
              have H := H1
              clear H1
              replace H := Option.bind_eq_some_iff.mp H
              obtain ⟨t495, A410, H⟩ := H
              replace H : ((laws_eqRow.f kj16 t481 t495).bind fun t498 => (if t498 = true then ((laws_toWalkerS.f kj16 l1).bind fun t499 => ((laws_eqWalkerS.f kj16 t484 t499).bind fun t502 => (if t502 = true then ((laws_toRow.f kj16 l3).bind fun t503 => ((laws_eqRow.f kj16 t487 t503).bind fun t506 => (if t506 = true then ((laws_markRow.f kj16 t481 1).bind fun bt507 => ((laws_markWalkerS.f kj16 t484 bt507.1).bind fun bt509 => ((laws_markRow.f kj16 t487 bt509.1).bind fun bt511 => (if bt511.1 < 0 then (laws_FnExactMissedWalks.j1 kj16 l0 l1 a2 l3 t477 t478 t490 true) else ((laws_eqInt64A2S.f kj16 t490 t477).bind fun t513 => (if t513 = true then (laws_FnExactMissedWalks.j1 kj16 l0 l1 a2 l3 t477 t478 t490 (t491 != t478)) else (laws_FnExactMissedWalks.j1 kj16 l0 l1 a2 l3 t477 t478 t490 true))))))) else (some false)))) else (some false)))) else (some false))) = some r := H
              have A41 := Aside0.mk A410
              clear A410
              replace H := Option.bind_eq_some_iff.mp H
              obtain ⟨t498, A420, H⟩ := H
              replace H : (if t498 = true then ((laws_toWalkerS.f kj16 l1).bind fun t499 => ((laws_eqWalkerS.f kj16 t484 t499).bind fun t502 => (if t502 = true then ((laws_toRow.f kj16 l3).bind fun t503 => ((laws_eqRow.f kj16 t487 t503).bind fun t506 => (if t506 = true then ((laws_markRow.f kj16 t481 1).bind fun bt507 => ((laws_markWalkerS.f kj16 t484 bt507.1).bind fun bt509 => ((laws_markRow.f kj16 t487 bt509.1).bind fun bt511 => (if bt511.1 < 0 then (laws_FnExactMissedWalks.j1 kj16 l0 l1 a2 l3 t477 t478 t490 true) else ((laws_eqInt64A2S.f kj16 t490 t477).bind fun t513 => (if t513 = true then (laws_FnExactMissedWalks.j1 kj16 l0 l1 a2 l3 t477 t478 t490 (t491 != t478)) else (laws_FnExactMissedWalks.j1 kj16 l0 l1 a2 l3 t477 t478 t490 true))))))) else (some false)))) else (some false)))) else (some false)) = some r := H
              have A42 := Aside0.mk A420
              clear A420
              by_cases c43 : t498 = true
              · subst c43
                have H1 : ((laws_toWalkerS.f kj16 l1).bind fun t499 => ((laws_eqWalkerS.f kj16 t484 t499).bind fun t502 => (if t502 = true then ((laws_toRow.f kj16 l3).bind fun t503 => ((laws_eqRow.f kj16 t487 t503).bind fun t506 => (if t506 = true then ((laws_markRow.f kj16 t481 1).bind fun bt507 => ((laws_markWalkerS.f kj16 t484 bt507.1).bind fun bt509 => ((laws_markRow.f kj16 t487 bt509.1).bind fun bt511 => (if bt511.1 < 0 then (laws_FnExactMissedWalks.j1 kj16 l0 l1 a2 l3 t477 t478 t490 true) else ((laws_eqInt64A2S.f kj16 t490 t477).bind fun t513 => (if t513 = true then (laws_FnExactMissedWalks.j1 kj16 l0 l1 a2 l3 t477 t478 t490 (t491 != t478)) else (laws_FnExactMissedWalks.j1 kj16 l0 l1 a2 l3 t477 t478 t490 true))))))) else (some false)))) else (some false)))) = some r := by rw [if_pos rfl] at H; exact H
                clear H
                have H := H1
                clear H1
                replace H := Option.bind_eq_some_iff.mp H
                obtain ⟨t499, A440, H⟩ := H
                replace H : ((laws_eqWalkerS.f kj16 t484 t499).bind fun t502 => (if t502 = true then ((laws_toRow.f kj16 l3).bind fun t503 => ((laws_eqRow.f kj16 t487 t503).bind fun t506 => (if t506 = true then ((laws_markRow.f kj16 t481 1).bind fun bt507 => ((laws_markWalkerS.f kj16 t484 bt507.1).bind fun bt509 => ((laws_markRow.f kj16 t487 bt509.1).bind fun bt511 => (if bt511.1 < 0 then (laws_FnExactMissedWalks.j1 kj16 l0 l1 a2 l3 t477 t478 t490 true) else ((laws_eqInt64A2S.f kj16 t490 t477).bind fun t513 => (if t513 = true then (laws_FnExactMissedWalks.j1 kj16 l0 l1 a2 l3 t477 t478 t490 (t491 != t478)) else (laws_FnExactMissedWalks.j1 kj16 l0 l1 a2 l3 t477 t478 t490 true))))))) else (some false)))) else (some false))) = some r := H
                have A44 := Aside0.mk A440
                clear A440
                replace H := Option.bind_eq_some_iff.mp H
                obtain ⟨t502, A450, H⟩ := H
                replace H : (if t502 = true then ((laws_toRow.f kj16 l3).bind fun t503 => ((laws_eqRow.f kj16 t487 t503).bind fun t506 => (if t506 = true then ((laws_markRow.f kj16 t481 1).bind fun bt507 => ((laws_markWalkerS.f kj16 t484 bt507.1).bind fun bt509 => ((laws_markRow.f kj16 t487 bt509.1).bind fun bt511 => (if bt511.1 < 0 then (laws_FnExactMissedWalks.j1 kj16 l0 l1 a2 l3 t477 t478 t490 true) else ((laws_eqInt64A2S.f kj16 t490 t477).bind fun t513 => (if t513 = true then (laws_FnExactMissedWalks.j1 kj16 l0 l1 a2 l3 t477 t478 t490 (t491 != t478)) else (laws_FnExactMissedWalks.j1 kj16 l0 l1 a2 l3 t477 t478 t490 true))))))) else (some false)))) else (some false)) = some r := H
                have A45 := Aside0.mk A450
                clear A450
                by_cases c46 : t502 = true
                · subst c46
                  have H1 : ((laws_toRow.f kj16 l3).bind fun t503 => ((laws_eqRow.f kj16 t487 t503).bind fun t506 => (if t506 = true then ((laws_markRow.f kj16 t481 1).bind fun bt507 => ((laws_markWalkerS.f kj16 t484 bt507.1).bind fun bt509 => ((laws_markRow.f kj16 t487 bt509.1).bind fun bt511 => (if bt511.1 < 0 then (laws_FnExactMissedWalks.j1 kj16 l0 l1 a2 l3 t477 t478 t490 true) else ((laws_eqInt64A2S.f kj16 t490 t477).bind fun t513 => (if t513 = true then (laws_FnExactMissedWalks.j1 kj16 l0 l1 a2 l3 t477 t478 t490 (t491 != t478)) else (laws_FnExactMissedWalks.j1 kj16 l0 l1 a2 l3 t477 t478 t490 true))))))) else (some false)))) = some r := by rw [if_pos rfl] at H; exact H
                  clear H
                  have H := H1
                  clear H1
                  replace H := Option.bind_eq_some_iff.mp H
                  obtain ⟨t503, A470, H⟩ := H
                  replace H : ((laws_eqRow.f kj16 t487 t503).bind fun t506 => (if t506 = true then ((laws_markRow.f kj16 t481 1).bind fun bt507 => ((laws_markWalkerS.f kj16 t484 bt507.1).bind fun bt509 => ((laws_markRow.f kj16 t487 bt509.1).bind fun bt511 => (if bt511.1 < 0 then (laws_FnExactMissedWalks.j1 kj16 l0 l1 a2 l3 t477 t478 t490 true) else ((laws_eqInt64A2S.f kj16 t490 t477).bind fun t513 => (if t513 = true then (laws_FnExactMissedWalks.j1 kj16 l0 l1 a2 l3 t477 t478 t490 (t491 != t478)) else (laws_FnExactMissedWalks.j1 kj16 l0 l1 a2 l3 t477 t478 t490 true))))))) else (some false))) = some r := H
                  have A47 := Aside0.mk A470
                  clear A470
                  replace H := Option.bind_eq_some_iff.mp H
                  obtain ⟨t506, A480, H⟩ := H
                  replace H : (if t506 = true then ((laws_markRow.f kj16 t481 1).bind fun bt507 => ((laws_markWalkerS.f kj16 t484 bt507.1).bind fun bt509 => ((laws_markRow.f kj16 t487 bt509.1).bind fun bt511 => (if bt511.1 < 0 then (laws_FnExactMissedWalks.j1 kj16 l0 l1 a2 l3 t477 t478 t490 true) else ((laws_eqInt64A2S.f kj16 t490 t477).bind fun t513 => (if t513 = true then (laws_FnExactMissedWalks.j1 kj16 l0 l1 a2 l3 t477 t478 t490 (t491 != t478)) else (laws_FnExactMissedWalks.j1 kj16 l0 l1 a2 l3 t477 t478 t490 true))))))) else (some false)) = some r := H
                  have A48 := Aside0.mk A480
                  clear A480
                  by_cases c49 : t506 = true
                  · subst c49
                    have H1 : ((laws_markRow.f kj16 t481 1).bind fun bt507 => ((laws_markWalkerS.f kj16 t484 bt507.1).bind fun bt509 => ((laws_markRow.f kj16 t487 bt509.1).bind fun bt511 => (if bt511.1 < 0 then (laws_FnExactMissedWalks.j1 kj16 l0 l1 a2 l3 t477 t478 t490 true) else ((laws_eqInt64A2S.f kj16 t490 t477).bind fun t513 => (if t513 = true then (laws_FnExactMissedWalks.j1 kj16 l0 l1 a2 l3 t477 t478 t490 (t491 != t478)) else (laws_FnExactMissedWalks.j1 kj16 l0 l1 a2 l3 t477 t478 t490 true))))))) = some r := by rw [if_pos rfl] at H; exact H
                    clear H
                    have H := H1
                    clear H1
                    replace H := Option.bind_eq_some_iff.mp H
                    obtain ⟨⟨t507, t508⟩, A500, H⟩ := H
                    replace H : ((laws_markWalkerS.f kj16 t484 t507).bind fun bt509 => ((laws_markRow.f kj16 t487 bt509.1).bind fun bt511 => (if bt511.1 < 0 then (laws_FnExactMissedWalks.j1 kj16 l0 l1 a2 l3 t477 t478 t490 true) else ((laws_eqInt64A2S.f kj16 t490 t477).bind fun t513 => (if t513 = true then (laws_FnExactMissedWalks.j1 kj16 l0 l1 a2 l3 t477 t478 t490 (t491 != t478)) else (laws_FnExactMissedWalks.j1 kj16 l0 l1 a2 l3 t477 t478 t490 true)))))) = some r := H
                    have A50 := Aside0.mk A500
                    clear A500
                    replace H := Option.bind_eq_some_iff.mp H
                    obtain ⟨⟨t509, t510⟩, A510, H⟩ := H
                    replace H : ((laws_markRow.f kj16 t487 t509).bind fun bt511 => (if bt511.1 < 0 then (laws_FnExactMissedWalks.j1 kj16 l0 l1 a2 l3 t477 t478 t490 true) else ((laws_eqInt64A2S.f kj16 t490 t477).bind fun t513 => (if t513 = true then (laws_FnExactMissedWalks.j1 kj16 l0 l1 a2 l3 t477 t478 t490 (t491 != t478)) else (laws_FnExactMissedWalks.j1 kj16 l0 l1 a2 l3 t477 t478 t490 true))))) = some r := H
                    have A51 := Aside0.mk A510
                    clear A510
                    replace H := Option.bind_eq_some_iff.mp H
                    obtain ⟨⟨t511, t512⟩, A520, H⟩ := H
                    replace H : (if t511 < 0 then (laws_FnExactMissedWalks.j1 kj16 l0 l1 a2 l3 t477 t478 t490 true) else ((laws_eqInt64A2S.f kj16 t490 t477).bind fun t513 => (if t513 = true then (laws_FnExactMissedWalks.j1 kj16 l0 l1 a2 l3 t477 t478 t490 (t491 != t478)) else (laws_FnExactMissedWalks.j1 kj16 l0 l1 a2 l3 t477 t478 t490 true)))) = some r := H
                    have A52 := Aside0.mk A520
                    clear A520
                    have HC53 := Aside0.mk H
                    clear H
                    go_upto_region 26 with (first | ((with_reducible refine gate_callee (f := 23) rfl ?_); refine goesL_ (some 69) rfl rfl Try.func23 (by kernel_rfl) rfl #[.slice A0 l0.length c0] rfl (by (try simp only [List.map_toArray, List.map_cons, List.map_nil]); first | done | rfl | (simp only [List.length_drop, List.length_take]; rfl)) ?_; (with_reducible refine (laws_toRow.calls kj16 _ _ l0 t495 _ ?side1 ?side2 A41.out).mono ?_); (case side1 => repeat (first | exact (Kd.C_below HR0.out HB.out) | (with_reducible refine Kd.C_alloc ?_ _) | (with_reducible refine Kd.C_drewN ?_ _) | (with_reducible refine Kd.C_drew ?_))); (case side2 => exact HC0.out); rintro e w54 ⟨v496, rfl, ho0, hb⟩; refine ⟨_, rfl, ?_⟩; have n0_ := Aside0.mk (Kd.R_below (by (with_reducible repeat (first | apply Kd.R_alloc | apply Kd.R_drewN | apply Kd.R_drew)); exact HO_10.out) hb); have n1_ := Aside0.mk (Kd.R_elder' (by (with_reducible repeat (first | apply Kd.R_alloc | apply Kd.R_drewN | apply Kd.R_drew)); exact HO_12.out) (Kd.R_base ho0) hb); have n2_ := Aside0.mk (Kd.R_below (by (with_reducible repeat (first | apply Kd.R_alloc | apply Kd.R_drewN | apply Kd.R_drew)); exact HO_13.out) hb); have n3_ := Aside0.mk (Kd.R_elder' (by (with_reducible repeat (first | apply Kd.R_alloc | apply Kd.R_drewN | apply Kd.R_drew)); exact HO_14.out) (Kd.R_base ho0) hb); have n4_ := Aside0.mk (Kd.R_below (by (with_reducible repeat (first | apply Kd.R_alloc | apply Kd.R_drewN | apply Kd.R_drew)); exact HO_15.out) hb); have n5_ := Aside0.mk (Kd.R_lower (Kd.R_new' (Kd.R_new' ho0 (Kd.R_lt (by (with_reducible repeat (first | apply Kd.R_alloc | apply Kd.R_drewN | apply Kd.R_drew)); exact HO_12.out))) (Kd.R_lt (by (with_reducible repeat (first | apply Kd.R_alloc | apply Kd.R_drewN | apply Kd.R_drew)); exact HO_14.out))) (below_size (by repeat (first | (with_reducible first | exact HB.out | apply below_alloc | apply pw_below_drewN | apply below_drew1) | exact HB.out)))); have n6_ := Aside0.mk (below_step (by repeat (first | (with_reducible first | exact HB.out | apply below_alloc | apply pw_below_drewN | apply below_drew1) | exact HB.out)) hb); clear HO_10; clear HO_12; clear HO_13; clear HO_14; clear HO_15; clear HB; have HO_10 := n0_; have HO_12 := n1_; have HO_13 := n2_; have HO_14 := n3_; have HO_15 := n4_; have HO497 := n5_; have HB := n6_; clear n0_ n1_ n2_ n3_ n4_ n5_ n6_; (try clear hb); (try clear hb2); (try clear hk); (try clear hi); (try clear ho0); obtain ⟨Ao55, co55, eo55⟩ := Kd.R_slice HO497.out; subst eo55) | ((with_reducible refine gate_callee (f := 27) rfl ?_); refine goesL_ (some 70) rfl rfl Try.func27 (by kernel_rfl) rfl #[.slice Ao28 t481.length co28, .slice Ao55 t495.length co55] rfl (by (try simp only [List.map_toArray, List.map_cons, List.map_nil]); first | done | rfl | (simp only [List.length_drop, List.length_take]; rfl)) ?_; (with_reducible refine (laws_eqRow.calls kj16 _ _ t481 _ _ t495 true _ ?side1 ?side2 ?side3 ?side4 A42.out).mono ?_); (case side1 => repeat (first | exact (Kd.R_reads' HO_12.out).2.2 | (with_reducible refine Kd.C_alloc ?_ _) | (with_reducible refine Kd.C_drewN ?_ _) | (with_reducible refine Kd.C_drew ?_))); (case side2 => exact (Kd.R_reads' HO_12.out).2.1); (case side3 => repeat (first | exact (Kd.R_reads' HO497.out).2.2 | (with_reducible refine Kd.C_alloc ?_ _) | (with_reducible refine Kd.C_drewN ?_ _) | (with_reducible refine Kd.C_drew ?_))); (case side4 => exact (Kd.R_reads' HO497.out).2.1); rintro e w' ⟨rfl, ⟨nd, rfl⟩⟩; refine ⟨_, rfl, ?_⟩) | ((with_reducible refine gate_callee (f := 24) rfl ?_); refine goesL_ (some 74) rfl rfl Try.func24 (by kernel_rfl) rfl #[.slice A1 l1.length c1] rfl (by (try simp only [List.map_toArray, List.map_cons, List.map_nil]); first | done | rfl | (simp only [List.length_drop, List.length_take]; rfl)) ?_; (with_reducible refine (laws_toWalkerS.calls kj16 _ _ l1 t499 _ ?side1 ?side2 A44.out).mono ?_); (case side1 => repeat (first | exact (Kd.C_below HR1.out (by repeat (first | (with_reducible first | exact HB.out | apply below_alloc | apply pw_below_drewN | apply below_drew1) | exact HB.out))) | (with_reducible refine Kd.C_alloc ?_ _) | (with_reducible refine Kd.C_drewN ?_ _) | (with_reducible refine Kd.C_drew ?_))); (case side2 => exact HC1.out); rintro e w56 ⟨v500, rfl, ho0, hb⟩; refine ⟨_, rfl, ?_⟩; have n0_ := Aside0.mk (Kd.R_below (by (with_reducible repeat (first | apply Kd.R_alloc | apply Kd.R_drewN | apply Kd.R_drew)); exact HO_10.out) hb); have n1_ := Aside0.mk (Kd.R_below (by (with_reducible repeat (first | apply Kd.R_alloc | apply Kd.R_drewN | apply Kd.R_drew)); exact HO_12.out) hb); have n2_ := Aside0.mk (Kd.R_elder' (by (with_reducible repeat (first | apply Kd.R_alloc | apply Kd.R_drewN | apply Kd.R_drew)); exact HO_13.out) (Kd.R_base ho0) hb); have n3_ := Aside0.mk (Kd.R_below (by (with_reducible repeat (first | apply Kd.R_alloc | apply Kd.R_drewN | apply Kd.R_drew)); exact HO_14.out) hb); have n4_ := Aside0.mk (Kd.R_below (by (with_reducible repeat (first | apply Kd.R_alloc | apply Kd.R_drewN | apply Kd.R_drew)); exact HO_15.out) hb); have n5_ := Aside0.mk (Kd.R_below (by (with_reducible repeat (first | apply Kd.R_alloc | apply Kd.R_drewN | apply Kd.R_drew)); exact HO497.out) hb); have n6_ := Aside0.mk (Kd.R_lower (Kd.R_new' ho0 (Kd.R_lt (by (with_reducible repeat (first | apply Kd.R_alloc | apply Kd.R_drewN | apply Kd.R_drew)); exact HO_13.out))) (below_size (by repeat (first | (with_reducible first | exact HB.out | apply below_alloc | apply pw_below_drewN | apply below_drew1) | exact HB.out)))); have n7_ := Aside0.mk (below_step (by repeat (first | (with_reducible first | exact HB.out | apply below_alloc | apply pw_below_drewN | apply below_drew1) | exact HB.out)) hb); clear HO_10; clear HO_12; clear HO_13; clear HO_14; clear HO_15; clear HO497; clear HB; have HO_10 := n0_; have HO_12 := n1_; have HO_13 := n2_; have HO_14 := n3_; have HO_15 := n4_; have HO497 := n5_; have HO501 := n6_; have HB := n7_; clear n0_ n1_ n2_ n3_ n4_ n5_ n6_ n7_; (try clear hb); (try clear hb2); (try clear hk); (try clear hi); (try clear ho0); obtain ⟨Ao57, co57, eo57⟩ := Kd.R_slice HO501.out; subst eo57) | ((with_reducible refine gate_callee (f := 28) rfl ?_); refine goesL_ (some 75) rfl rfl Try.func28 (by kernel_rfl) rfl #[.slice Ao29 t484.length co29, .slice Ao57 t499.length co57] rfl (by (try simp only [List.map_toArray, List.map_cons, List.map_nil]); first | done | rfl | (simp only [List.length_drop, List.length_take]; rfl)) ?_; (with_reducible refine (laws_eqWalkerS.calls kj16 _ _ t484 _ _ t499 true _ ?side1 ?side2 ?side3 ?side4 A45.out).mono ?_); (case side1 => repeat (first | exact (Kd.R_reads' HO_13.out).2.2 | (with_reducible refine Kd.C_alloc ?_ _) | (with_reducible refine Kd.C_drewN ?_ _) | (with_reducible refine Kd.C_drew ?_))); (case side2 => exact (Kd.R_reads' HO_13.out).2.1); (case side3 => repeat (first | exact (Kd.R_reads' HO501.out).2.2 | (with_reducible refine Kd.C_alloc ?_ _) | (with_reducible refine Kd.C_drewN ?_ _) | (with_reducible refine Kd.C_drew ?_))); (case side4 => exact (Kd.R_reads' HO501.out).2.1); rintro e w58 ⟨rfl, hb⟩; refine ⟨_, rfl, ?_⟩; have n0_ := Aside0.mk (Kd.R_below (by (with_reducible repeat (first | apply Kd.R_alloc | apply Kd.R_drewN | apply Kd.R_drew)); exact HO_10.out) hb); have n1_ := Aside0.mk (Kd.R_below (by (with_reducible repeat (first | apply Kd.R_alloc | apply Kd.R_drewN | apply Kd.R_drew)); exact HO_12.out) hb); have n2_ := Aside0.mk (Kd.R_below (by (with_reducible repeat (first | apply Kd.R_alloc | apply Kd.R_drewN | apply Kd.R_drew)); exact HO_13.out) hb); have n3_ := Aside0.mk (Kd.R_below (by (with_reducible repeat (first | apply Kd.R_alloc | apply Kd.R_drewN | apply Kd.R_drew)); exact HO_14.out) hb); have n4_ := Aside0.mk (Kd.R_below (by (with_reducible repeat (first | apply Kd.R_alloc | apply Kd.R_drewN | apply Kd.R_drew)); exact HO_15.out) hb); have n5_ := Aside0.mk (Kd.R_below (by (with_reducible repeat (first | apply Kd.R_alloc | apply Kd.R_drewN | apply Kd.R_drew)); exact HO497.out) hb); have n6_ := Aside0.mk (Kd.R_below (by (with_reducible repeat (first | apply Kd.R_alloc | apply Kd.R_drewN | apply Kd.R_drew)); exact HO501.out) hb); have n7_ := Aside0.mk (below_step (by repeat (first | (with_reducible first | exact HB.out | apply below_alloc | apply pw_below_drewN | apply below_drew1) | exact HB.out)) hb); clear HO_10; clear HO_12; clear HO_13; clear HO_14; clear HO_15; clear HO497; clear HO501; clear HB; have HO_10 := n0_; have HO_12 := n1_; have HO_13 := n2_; have HO_14 := n3_; have HO_15 := n4_; have HO497 := n5_; have HO501 := n6_; have HB := n7_; clear n0_ n1_ n2_ n3_ n4_ n5_ n6_ n7_; (try clear hb); (try clear hb2); (try clear hk); (try clear hi)) | ((with_reducible refine gate_callee (f := 23) rfl ?_); refine goesL_ (some 79) rfl rfl Try.func23 (by kernel_rfl) rfl #[.slice A3 l3.length c3] rfl (by (try simp only [List.map_toArray, List.map_cons, List.map_nil]); first | done | rfl | (simp only [List.length_drop, List.length_take]; rfl)) ?_; (with_reducible refine (laws_toRow.calls kj16 _ _ l3 t503 _ ?side1 ?side2 A47.out).mono ?_); (case side1 => repeat (first | exact (Kd.C_below HR3.out HB.out) | (with_reducible refine Kd.C_alloc ?_ _) | (with_reducible refine Kd.C_drewN ?_ _) | (with_reducible refine Kd.C_drew ?_))); (case side2 => exact HC3.out); rintro e w59 ⟨v504, rfl, ho0, hb⟩; refine ⟨_, rfl, ?_⟩; have n0_ := Aside0.mk (Kd.R_below (by (with_reducible repeat (first | apply Kd.R_alloc | apply Kd.R_drewN | apply Kd.R_drew)); exact HO_10.out) hb); have n1_ := Aside0.mk (Kd.R_elder' (by (with_reducible repeat (first | apply Kd.R_alloc | apply Kd.R_drewN | apply Kd.R_drew)); exact HO_12.out) (Kd.R_base ho0) hb); have n2_ := Aside0.mk (Kd.R_below (by (with_reducible repeat (first | apply Kd.R_alloc | apply Kd.R_drewN | apply Kd.R_drew)); exact HO_13.out) hb); have n3_ := Aside0.mk (Kd.R_elder' (by (with_reducible repeat (first | apply Kd.R_alloc | apply Kd.R_drewN | apply Kd.R_drew)); exact HO_14.out) (Kd.R_base ho0) hb); have n4_ := Aside0.mk (Kd.R_below (by (with_reducible repeat (first | apply Kd.R_alloc | apply Kd.R_drewN | apply Kd.R_drew)); exact HO_15.out) hb); have n5_ := Aside0.mk (Kd.R_elder' (by (with_reducible repeat (first | apply Kd.R_alloc | apply Kd.R_drewN | apply Kd.R_drew)); exact HO497.out) (Kd.R_base ho0) hb); have n6_ := Aside0.mk (Kd.R_below (by (with_reducible repeat (first | apply Kd.R_alloc | apply Kd.R_drewN | apply Kd.R_drew)); exact HO501.out) hb); have n7_ := Aside0.mk (Kd.R_lower (Kd.R_new' (Kd.R_new' (Kd.R_new' ho0 (Kd.R_lt (by (with_reducible repeat (first | apply Kd.R_alloc | apply Kd.R_drewN | apply Kd.R_drew)); exact HO_12.out))) (Kd.R_lt (by (with_reducible repeat (first | apply Kd.R_alloc | apply Kd.R_drewN | apply Kd.R_drew)); exact HO_14.out))) (Kd.R_lt (by (with_reducible repeat (first | apply Kd.R_alloc | apply Kd.R_drewN | apply Kd.R_drew)); exact HO497.out))) (below_size (by repeat (first | (with_reducible first | exact HB.out | apply below_alloc | apply pw_below_drewN | apply below_drew1) | exact HB.out)))); have n8_ := Aside0.mk (below_step (by repeat (first | (with_reducible first | exact HB.out | apply below_alloc | apply pw_below_drewN | apply below_drew1) | exact HB.out)) hb); clear HO_10; clear HO_12; clear HO_13; clear HO_14; clear HO_15; clear HO497; clear HO501; clear HB; have HO_10 := n0_; have HO_12 := n1_; have HO_13 := n2_; have HO_14 := n3_; have HO_15 := n4_; have HO497 := n5_; have HO501 := n6_; have HO505 := n7_; have HB := n8_; clear n0_ n1_ n2_ n3_ n4_ n5_ n6_ n7_ n8_; (try clear hb); (try clear hb2); (try clear hk); (try clear hi); (try clear ho0); obtain ⟨Ao60, co60, eo60⟩ := Kd.R_slice HO505.out; subst eo60) | ((with_reducible refine gate_callee (f := 27) rfl ?_); refine goesL_ (some 80) rfl rfl Try.func27 (by kernel_rfl) rfl #[.slice Ao30 t487.length co30, .slice Ao60 t503.length co60] rfl (by (try simp only [List.map_toArray, List.map_cons, List.map_nil]); first | done | rfl | (simp only [List.length_drop, List.length_take]; rfl)) ?_; (with_reducible refine (laws_eqRow.calls kj16 _ _ t487 _ _ t503 true _ ?side1 ?side2 ?side3 ?side4 A48.out).mono ?_); (case side1 => repeat (first | exact (Kd.R_reads' HO_14.out).2.2 | (with_reducible refine Kd.C_alloc ?_ _) | (with_reducible refine Kd.C_drewN ?_ _) | (with_reducible refine Kd.C_drew ?_))); (case side2 => exact (Kd.R_reads' HO_14.out).2.1); (case side3 => repeat (first | exact (Kd.R_reads' HO505.out).2.2 | (with_reducible refine Kd.C_alloc ?_ _) | (with_reducible refine Kd.C_drewN ?_ _) | (with_reducible refine Kd.C_drew ?_))); (case side4 => exact (Kd.R_reads' HO505.out).2.1); rintro e w' ⟨rfl, ⟨nd, rfl⟩⟩; refine ⟨_, rfl, ?_⟩) | ((with_reducible refine gate_callee (f := 29) rfl ?_); refine goesL_ (some 84) rfl rfl Try.func29 (by kernel_rfl) rfl #[.slice Ao28 t481.length co28, .int .i64 1] rfl (by (try simp only [List.map_toArray, List.map_cons, List.map_nil]); first | done | rfl | (simp only [List.length_drop, List.length_take]; rfl)) ?_; (with_reducible refine (laws_markRow.calls kj16 (fun k_ => some k_ = (.slice Ao28 t481.length co28 : Value).ownBlock) (.slice Ao28 t481.length co28) t481 1 t507 t508 w _ ?side1 ?side2 A50.out).mono ?_); (case side1 => repeat (first | (with_reducible first | exact HB.out | apply below_alloc | apply pw_below_drewN | apply below_drew1) | exact HB.out)); (case side2 => exact Kd.R_tight rfl HO_12.out); rintro e w61 ⟨rfl, hy0, hb, hkp⟩; refine ⟨_, rfl, ?_⟩; have n0_ := Aside0.mk (Kd.R_mono (ok' := fun k_ => some k_ ≠ (v492 : Value).ownBlock) (Kd.R_keptB ((Kd.R_apart' HO_10.out (Kd.R_typed HO_12.out) (by decide))) hkp (fun k_ hk_ hs_ => (hk_.2) hs_)) (fun k_ hk_ => hk_.1.1)); have n1_ := Aside0.mk (Kd.R_reok rfl hy0 (fun k_ e_ => HO_12.out.1 k_ e_)); have n2_ := Aside0.mk (Kd.R_mono (ok' := fun k_ => some k_ ≠ (.slice Ao57 t499.length co57 : Value).ownBlock) (Kd.R_keptB ((Kd.R_apart' HO_13.out (Kd.R_typed HO_12.out) (by decide))) hkp (fun k_ hk_ hs_ => (hk_.2) hs_)) (fun k_ hk_ => hk_.1.1.2)); have n3_ := Aside0.mk (Kd.R_mono (ok' := fun k_ => some k_ ≠ (.slice Ao28 t481.length co28 : Value).ownBlock ∧ some k_ ≠ (.slice Ao55 t495.length co55 : Value).ownBlock ∧ some k_ ≠ (.slice Ao60 t503.length co60 : Value).ownBlock) (Kd.R_keptB (HO_14.out) hkp (fun k_ hk_ hs_ => (hk_.1.1) hs_)) (fun k_ hk_ => ⟨hk_.1.1.1, hk_.1.1.2, hk_.1.2⟩)); have n4_ := Aside0.mk (Kd.R_mono (ok' := fun k_ => some k_ ≠ (v479 : Value).ownBlock) (Kd.R_keptB ((Kd.R_apart' HO_15.out (Kd.R_typed HO_12.out) (by decide))) hkp (fun k_ hk_ hs_ => (hk_.2) hs_)) (fun k_ hk_ => hk_.1.1)); have n5_ := Aside0.mk (Kd.R_mono (ok' := fun k_ => some k_ ≠ (.slice Ao28 t481.length co28 : Value).ownBlock ∧ some k_ ≠ (.slice Ao30 t487.length co30 : Value).ownBlock ∧ some k_ ≠ (.slice Ao60 t503.length co60 : Value).ownBlock) (Kd.R_keptB (HO497.out) hkp (fun k_ hk_ hs_ => (hk_.1.1.2) hs_)) (fun k_ hk_ => ⟨hk_.1.1.1.2, hk_.1.1.2, hk_.1.2⟩)); have n6_ := Aside0.mk (Kd.R_mono (ok' := fun k_ => some k_ ≠ (.slice Ao29 t484.length co29 : Value).ownBlock) (Kd.R_keptB ((Kd.R_apart' HO501.out (Kd.R_typed HO_12.out) (by decide))) hkp (fun k_ hk_ hs_ => (hk_.2) hs_)) (fun k_ hk_ => hk_.1.1.2)); have n7_ := Aside0.mk (Kd.R_mono (ok' := fun k_ => some k_ ≠ (.slice Ao28 t481.length co28 : Value).ownBlock ∧ some k_ ≠ (.slice Ao30 t487.length co30 : Value).ownBlock ∧ some k_ ≠ (.slice Ao55 t495.length co55 : Value).ownBlock) (Kd.R_keptB (HO505.out) hkp (fun k_ hk_ hs_ => (hk_.1.1.2) hs_)) (fun k_ hk_ => ⟨hk_.1.1.1.2, hk_.1.1.2, hk_.1.2⟩)); have n8_ := Aside0.mk (hb); clear HO_10; clear HO_12; clear HO_13; clear HO_14; clear HO_15; clear HO497; clear HO501; clear HO505; clear HB; have HO_10 := n0_; have HO_12 := n1_; have HO_13 := n2_; have HO_14 := n3_; have HO_15 := n4_; have HO497 := n5_; have HO501 := n6_; have HO505 := n7_; have HB := n8_; clear n0_ n1_ n2_ n3_ n4_ n5_ n6_ n7_ n8_; (try clear hb); (try clear hkp); (try clear hy0)) | ((with_reducible refine gate_callee (f := 30) rfl ?_); refine goesL_ (some 87) rfl rfl Try.func30 (by kernel_rfl) rfl #[.slice Ao29 t484.length co29, .int .i64 t507] rfl (by (try simp only [List.map_toArray, List.map_cons, List.map_nil]); first | done | rfl | (simp only [List.length_drop, List.length_take]; rfl)) ?_; (with_reducible refine (laws_markWalkerS.calls kj16 (fun k_ => some k_ = (.slice Ao29 t484.length co29 : Value).ownBlock) (.slice Ao29 t484.length co29) t484 t507 t509 t510 w _ ?side1 ?side2 A51.out).mono ?_); (case side1 => repeat (first | (with_reducible first | exact HB.out | apply below_alloc | apply pw_below_drewN | apply below_drew1) | exact HB.out)); (case side2 => exact Kd.R_tight rfl HO_13.out); rintro e w62 ⟨rfl, hy0, hb, hkp⟩; refine ⟨_, rfl, ?_⟩; have n0_ := Aside0.mk (Kd.R_mono (ok' := fun k_ => some k_ ≠ (v492 : Value).ownBlock) (Kd.R_keptB ((Kd.R_apart' HO_10.out (Kd.R_typed HO_13.out) (by decide))) hkp (fun k_ hk_ hs_ => (hk_.2) hs_)) (fun k_ hk_ => hk_.1.1)); have n1_ := Aside0.mk (Kd.R_mono (ok' := fun k_ => some k_ ≠ (.slice Ao30 t487.length co30 : Value).ownBlock ∧ some k_ ≠ (.slice Ao55 t495.length co55 : Value).ownBlock ∧ some k_ ≠ (.slice Ao60 t503.length co60 : Value).ownBlock) (Kd.R_keptB ((Kd.R_apart' HO_12.out (Kd.R_typed HO_13.out) (by decide))) hkp (fun k_ hk_ hs_ => (hk_.2) hs_)) (fun k_ hk_ => ⟨hk_.1.1.1.1, hk_.1.1.1.2, hk_.1.1.2⟩)); have n2_ := Aside0.mk (Kd.R_reok rfl hy0 (fun k_ e_ => HO_13.out.1 k_ e_)); have n3_ := Aside0.mk (Kd.R_mono (ok' := fun k_ => some k_ ≠ (.slice Ao28 t481.length co28 : Value).ownBlock ∧ some k_ ≠ (.slice Ao55 t495.length co55 : Value).ownBlock ∧ some k_ ≠ (.slice Ao60 t503.length co60 : Value).ownBlock) (Kd.R_keptB ((Kd.R_apart' HO_14.out (Kd.R_typed HO_13.out) (by decide))) hkp (fun k_ hk_ hs_ => (hk_.2) hs_)) (fun k_ hk_ => ⟨hk_.1.1.1, hk_.1.1.2.1, hk_.1.1.2.2⟩)); have n4_ := Aside0.mk (Kd.R_mono (ok' := fun k_ => some k_ ≠ (v479 : Value).ownBlock) (Kd.R_keptB ((Kd.R_apart' HO_15.out (Kd.R_typed HO_13.out) (by decide))) hkp (fun k_ hk_ hs_ => (hk_.2) hs_)) (fun k_ hk_ => hk_.1.1)); have n5_ := Aside0.mk (Kd.R_mono (ok' := fun k_ => some k_ ≠ (.slice Ao28 t481.length co28 : Value).ownBlock ∧ some k_ ≠ (.slice Ao30 t487.length co30 : Value).ownBlock ∧ some k_ ≠ (.slice Ao60 t503.length co60 : Value).ownBlock) (Kd.R_keptB ((Kd.R_apart' HO497.out (Kd.R_typed HO_13.out) (by decide))) hkp (fun k_ hk_ hs_ => (hk_.2) hs_)) (fun k_ hk_ => ⟨hk_.1.1.1, hk_.1.1.2.1, hk_.1.1.2.2⟩)); have n6_ := Aside0.mk (Kd.R_mono (ok' := fun k_ => some k_ ≠ (.slice Ao29 t484.length co29 : Value).ownBlock) (Kd.R_keptB (HO501.out) hkp (fun k_ hk_ hs_ => (hk_) hs_)) (fun k_ hk_ => hk_.1)); have n7_ := Aside0.mk (Kd.R_mono (ok' := fun k_ => some k_ ≠ (.slice Ao28 t481.length co28 : Value).ownBlock ∧ some k_ ≠ (.slice Ao30 t487.length co30 : Value).ownBlock ∧ some k_ ≠ (.slice Ao55 t495.length co55 : Value).ownBlock) (Kd.R_keptB ((Kd.R_apart' HO505.out (Kd.R_typed HO_13.out) (by decide))) hkp (fun k_ hk_ hs_ => (hk_.2) hs_)) (fun k_ hk_ => ⟨hk_.1.1.1, hk_.1.1.2.1, hk_.1.1.2.2⟩)); have n8_ := Aside0.mk (hb); clear HO_10; clear HO_12; clear HO_13; clear HO_14; clear HO_15; clear HO497; clear HO501; clear HO505; clear HB; have HO_10 := n0_; have HO_12 := n1_; have HO_13 := n2_; have HO_14 := n3_; have HO_15 := n4_; have HO497 := n5_; have HO501 := n6_; have HO505 := n7_; have HB := n8_; clear n0_ n1_ n2_ n3_ n4_ n5_ n6_ n7_ n8_; (try clear hb); (try clear hkp); (try clear hy0)) | ((with_reducible refine gate_callee (f := 29) rfl ?_); refine goesL_ (some 90) rfl rfl Try.func29 (by kernel_rfl) rfl #[.slice Ao30 t487.length co30, .int .i64 t509] rfl (by (try simp only [List.map_toArray, List.map_cons, List.map_nil]); first | done | rfl | (simp only [List.length_drop, List.length_take]; rfl)) ?_; (with_reducible refine (laws_markRow.calls kj16 (fun k_ => some k_ = (.slice Ao30 t487.length co30 : Value).ownBlock) (.slice Ao30 t487.length co30) t487 t509 t511 t512 w _ ?side1 ?side2 A52.out).mono ?_); (case side1 => repeat (first | (with_reducible first | exact HB.out | apply below_alloc | apply pw_below_drewN | apply below_drew1) | exact HB.out)); (case side2 => exact Kd.R_tight rfl HO_14.out); rintro e w63 ⟨rfl, hy0, hb, hkp⟩; refine ⟨_, rfl, ?_⟩; have n0_ := Aside0.mk (Kd.R_mono (ok' := fun k_ => some k_ ≠ (v492 : Value).ownBlock) (Kd.R_keptB ((Kd.R_apart' HO_10.out (Kd.R_typed HO_14.out) (by decide))) hkp (fun k_ hk_ hs_ => (hk_.2) hs_)) (fun k_ hk_ => hk_.1.1)); have n1_ := Aside0.mk (Kd.R_mono (ok' := fun k_ => some k_ ≠ (.slice Ao30 t487.length co30 : Value).ownBlock ∧ some k_ ≠ (.slice Ao55 t495.length co55 : Value).ownBlock ∧ some k_ ≠ (.slice Ao60 t503.length co60 : Value).ownBlock) (Kd.R_keptB (HO_12.out) hkp (fun k_ hk_ hs_ => (hk_.1) hs_)) (fun k_ hk_ => ⟨hk_.1.1, hk_.1.2.1, hk_.1.2.2⟩)); have n2_ := Aside0.mk (Kd.R_mono (ok' := fun k_ => some k_ ≠ (.slice Ao57 t499.length co57 : Value).ownBlock) (Kd.R_keptB ((Kd.R_apart' HO_13.out (Kd.R_typed HO_14.out) (by decide))) hkp (fun k_ hk_ hs_ => (hk_.2) hs_)) (fun k_ hk_ => hk_.1.1)); have n3_ := Aside0.mk (Kd.R_reok rfl hy0 (fun k_ e_ => HO_14.out.1 k_ e_)); have n4_ := Aside0.mk (Kd.R_mono (ok' := fun k_ => some k_ ≠ (v479 : Value).ownBlock) (Kd.R_keptB ((Kd.R_apart' HO_15.out (Kd.R_typed HO_14.out) (by decide))) hkp (fun k_ hk_ hs_ => (hk_.2) hs_)) (fun k_ hk_ => hk_.1.1)); have n5_ := Aside0.mk (Kd.R_mono (ok' := fun k_ => some k_ ≠ (.slice Ao28 t481.length co28 : Value).ownBlock ∧ some k_ ≠ (.slice Ao30 t487.length co30 : Value).ownBlock ∧ some k_ ≠ (.slice Ao60 t503.length co60 : Value).ownBlock) (Kd.R_keptB (HO497.out) hkp (fun k_ hk_ hs_ => (hk_.2.1) hs_)) (fun k_ hk_ => ⟨hk_.1.1, hk_.1.2.1, hk_.1.2.2⟩)); have n6_ := Aside0.mk (Kd.R_mono (ok' := fun k_ => some k_ ≠ (.slice Ao29 t484.length co29 : Value).ownBlock) (Kd.R_keptB ((Kd.R_apart' HO501.out (Kd.R_typed HO_14.out) (by decide))) hkp (fun k_ hk_ hs_ => (hk_.2) hs_)) (fun k_ hk_ => hk_.1.1)); have n7_ := Aside0.mk (Kd.R_mono (ok' := fun k_ => some k_ ≠ (.slice Ao28 t481.length co28 : Value).ownBlock ∧ some k_ ≠ (.slice Ao30 t487.length co30 : Value).ownBlock ∧ some k_ ≠ (.slice Ao55 t495.length co55 : Value).ownBlock) (Kd.R_keptB (HO505.out) hkp (fun k_ hk_ hs_ => (hk_.2.1) hs_)) (fun k_ hk_ => ⟨hk_.1.1, hk_.1.2.1, hk_.1.2.2⟩)); have n8_ := Aside0.mk (hb); clear HO_10; clear HO_12; clear HO_13; clear HO_14; clear HO_15; clear HO497; clear HO501; clear HO505; clear HB; have HO_10 := n0_; have HO_12 := n1_; have HO_13 := n2_; have HO_14 := n3_; have HO_15 := n4_; have HO497 := n5_; have HO501 := n6_; have HO505 := n7_; have HB := n8_; clear n0_ n1_ n2_ n3_ n4_ n5_ n6_ n7_ n8_; (try clear hb); (try clear hkp); (try clear hy0)))
                    (try simp only [Act.put, List.setIfInBounds_toArray, List.set_cons_zero, List.set_cons_succ])
                    go_cut [103] (fun v103 wc => ∃ (kq : Nat) (x103_52 : Bool), v103 = .bool x103_52 ∧ Aside0 (laws_FnExactMissedWalks.j1 kq l0 l1 a2 l3 t477 t478 t490 x103_52 = some r) ∧ Aside0 (kq ≤ kj16) ∧ Aside0 (Kd.R k40 40 wc w.heap.size (fun k_ => some k_ ≠ (v492 : Value).ownBlock) v479 t477) ∧ Aside0 (Kd.R k40 40 wc w.heap.size (fun k_ => some k_ ≠ (v479 : Value).ownBlock) v492 t490) ∧ Aside0 (Below w.heap.size w wc))
                    case first =>
                      have H := HC53.out
                      clear HC53
                      by_cases c64 : t511 < 0
                      · rw [if_pos c64] at H
                        have c64b0 : decide (t511 < 0) = true := decide_eq_true c64
                        clear c64
                        (first | rw [c64b0] | (simp only [i64_w, i32_w]; rw [c64b0]) | skip)
                        have H' := Aside0.mk H
                        clear H
                        go_wp2
                        go_meet
                        case rel => exact ⟨_, (true), (by first | rfl | (simp; done) | (simp [*]; done)), H', ⟨by have := HJ16.out; first | omega | exact Nat.le_refl _⟩, ⟨by (with_reducible repeat (first | apply Kd.R_alloc | apply Kd.R_drewN | apply Kd.R_drew)); exact HO_10.out⟩, ⟨by (with_reducible repeat (first | apply Kd.R_alloc | apply Kd.R_drewN | apply Kd.R_drew)); exact HO_15.out⟩, ⟨by repeat (first | (with_reducible first | exact HB.out | apply below_alloc | apply pw_below_drewN | apply below_drew1) | exact HB.out)⟩⟩
                      · rw [if_neg c64] at H
                        have c64b0 : decide (t511 < 0) = false := decide_eq_false c64
                        clear c64
                        (first | rw [c64b0] | (simp only [i64_w, i32_w]; rw [c64b0]) | skip)
                        replace H := Option.bind_eq_some_iff.mp H
                        obtain ⟨t513, A650, H⟩ := H
                        replace H : (if t513 = true then (laws_FnExactMissedWalks.j1 kj16 l0 l1 a2 l3 t477 t478 t490 (t491 != t478)) else (laws_FnExactMissedWalks.j1 kj16 l0 l1 a2 l3 t477 t478 t490 true)) = some r := H
                        have A65 := Aside0.mk A650
                        clear A650
                        by_cases c66 : t513 = true
                        · subst c66
                          have H1 : (laws_FnExactMissedWalks.j1 kj16 l0 l1 a2 l3 t477 t478 t490 (t491 != t478)) = some r := by rw [if_pos rfl] at H; exact H
                          clear H
                          have H := H1
                          clear H1
                          have H' := Aside0.mk H
                          clear H
                          obtain ⟨Ao67, co67, eo67⟩ := Kd.R_slice HO_15.out
                          subst eo67
                          obtain ⟨Ao68, co68, eo68⟩ := Kd.R_slice HO_10.out
                          subst eo68
                          go_wp2_with (first | (go_at_call 33; (with_reducible refine (laws_eqInt64A2S.calls kj16 _ _ t490 _ _ t477 true _ ?side1 ?side2 ?side3 ?side4 A65.out).mono ?_); (case side1 => repeat (first | exact (Kd.R_reads' HO_15.out).2.2 | (with_reducible refine Kd.C_alloc ?_ _) | (with_reducible refine Kd.C_drewN ?_ _) | (with_reducible refine Kd.C_drew ?_))); (case side2 => exact (Kd.R_reads' HO_15.out).2.1); (case side3 => repeat (first | exact (Kd.R_reads' HO_10.out).2.2 | (with_reducible refine Kd.C_alloc ?_ _) | (with_reducible refine Kd.C_drewN ?_ _) | (with_reducible refine Kd.C_drew ?_))); (case side4 => exact (Kd.R_reads' HO_10.out).2.1); rintro e w69 ⟨rfl, hb⟩; have n0_ := Aside0.mk (Kd.R_below (by (with_reducible repeat (first | apply Kd.R_alloc | apply Kd.R_drewN | apply Kd.R_drew)); exact HO_10.out) hb); have n1_ := Aside0.mk (Kd.R_below (by (with_reducible repeat (first | apply Kd.R_alloc | apply Kd.R_drewN | apply Kd.R_drew)); exact HO_12.out) hb); have n2_ := Aside0.mk (Kd.R_below (by (with_reducible repeat (first | apply Kd.R_alloc | apply Kd.R_drewN | apply Kd.R_drew)); exact HO_13.out) hb); have n3_ := Aside0.mk (Kd.R_below (by (with_reducible repeat (first | apply Kd.R_alloc | apply Kd.R_drewN | apply Kd.R_drew)); exact HO_14.out) hb); have n4_ := Aside0.mk (Kd.R_below (by (with_reducible repeat (first | apply Kd.R_alloc | apply Kd.R_drewN | apply Kd.R_drew)); exact HO_15.out) hb); have n5_ := Aside0.mk (Kd.R_below (by (with_reducible repeat (first | apply Kd.R_alloc | apply Kd.R_drewN | apply Kd.R_drew)); exact HO497.out) hb); have n6_ := Aside0.mk (Kd.R_below (by (with_reducible repeat (first | apply Kd.R_alloc | apply Kd.R_drewN | apply Kd.R_drew)); exact HO501.out) hb); have n7_ := Aside0.mk (Kd.R_below (by (with_reducible repeat (first | apply Kd.R_alloc | apply Kd.R_drewN | apply Kd.R_drew)); exact HO505.out) hb); have n8_ := Aside0.mk (below_step (by repeat (first | (with_reducible first | exact HB.out | apply below_alloc | apply pw_below_drewN | apply below_drew1) | exact HB.out)) hb); clear HO_10; clear HO_12; clear HO_13; clear HO_14; clear HO_15; clear HO497; clear HO501; clear HO505; clear HB; have HO_10 := n0_; have HO_12 := n1_; have HO_13 := n2_; have HO_14 := n3_; have HO_15 := n4_; have HO497 := n5_; have HO501 := n6_; have HO505 := n7_; have HB := n8_; clear n0_ n1_ n2_ n3_ n4_ n5_ n6_ n7_ n8_; (try clear hb); (try clear hb2); (try clear hk); (try clear hi)))
                          go_meet
                          case rel => exact ⟨_, ((t491 != t478)), (by first | rfl | (simp; done) | (simp [*]; done)), H', ⟨by have := HJ16.out; first | omega | exact Nat.le_refl _⟩, ⟨by (with_reducible repeat (first | apply Kd.R_alloc | apply Kd.R_drewN | apply Kd.R_drew)); exact HO_10.out⟩, ⟨by (with_reducible repeat (first | apply Kd.R_alloc | apply Kd.R_drewN | apply Kd.R_drew)); exact HO_15.out⟩, ⟨by repeat (first | (with_reducible first | exact HB.out | apply below_alloc | apply pw_below_drewN | apply below_drew1) | exact HB.out)⟩⟩
                        · replace c66 := Bool.eq_false_iff.mpr c66
                          subst c66
                          have H1 : (laws_FnExactMissedWalks.j1 kj16 l0 l1 a2 l3 t477 t478 t490 true) = some r := by rw [if_neg (show ¬ (false = true) by decide)] at H; exact H
                          clear H
                          have H := H1
                          clear H1
                          have H' := Aside0.mk H
                          clear H
                          obtain ⟨Ao70, co70, eo70⟩ := Kd.R_slice HO_15.out
                          subst eo70
                          obtain ⟨Ao71, co71, eo71⟩ := Kd.R_slice HO_10.out
                          subst eo71
                          go_wp2_with (first | (go_at_call 33; (with_reducible refine (laws_eqInt64A2S.calls kj16 _ _ t490 _ _ t477 false _ ?side1 ?side2 ?side3 ?side4 A65.out).mono ?_); (case side1 => repeat (first | exact (Kd.R_reads' HO_15.out).2.2 | (with_reducible refine Kd.C_alloc ?_ _) | (with_reducible refine Kd.C_drewN ?_ _) | (with_reducible refine Kd.C_drew ?_))); (case side2 => exact (Kd.R_reads' HO_15.out).2.1); (case side3 => repeat (first | exact (Kd.R_reads' HO_10.out).2.2 | (with_reducible refine Kd.C_alloc ?_ _) | (with_reducible refine Kd.C_drewN ?_ _) | (with_reducible refine Kd.C_drew ?_))); (case side4 => exact (Kd.R_reads' HO_10.out).2.1); rintro e w72 ⟨rfl, hb⟩; have n0_ := Aside0.mk (Kd.R_below (by (with_reducible repeat (first | apply Kd.R_alloc | apply Kd.R_drewN | apply Kd.R_drew)); exact HO_10.out) hb); have n1_ := Aside0.mk (Kd.R_below (by (with_reducible repeat (first | apply Kd.R_alloc | apply Kd.R_drewN | apply Kd.R_drew)); exact HO_12.out) hb); have n2_ := Aside0.mk (Kd.R_below (by (with_reducible repeat (first | apply Kd.R_alloc | apply Kd.R_drewN | apply Kd.R_drew)); exact HO_13.out) hb); have n3_ := Aside0.mk (Kd.R_below (by (with_reducible repeat (first | apply Kd.R_alloc | apply Kd.R_drewN | apply Kd.R_drew)); exact HO_14.out) hb); have n4_ := Aside0.mk (Kd.R_below (by (with_reducible repeat (first | apply Kd.R_alloc | apply Kd.R_drewN | apply Kd.R_drew)); exact HO_15.out) hb); have n5_ := Aside0.mk (Kd.R_below (by (with_reducible repeat (first | apply Kd.R_alloc | apply Kd.R_drewN | apply Kd.R_drew)); exact HO497.out) hb); have n6_ := Aside0.mk (Kd.R_below (by (with_reducible repeat (first | apply Kd.R_alloc | apply Kd.R_drewN | apply Kd.R_drew)); exact HO501.out) hb); have n7_ := Aside0.mk (Kd.R_below (by (with_reducible repeat (first | apply Kd.R_alloc | apply Kd.R_drewN | apply Kd.R_drew)); exact HO505.out) hb); have n8_ := Aside0.mk (below_step (by repeat (first | (with_reducible first | exact HB.out | apply below_alloc | apply pw_below_drewN | apply below_drew1) | exact HB.out)) hb); clear HO_10; clear HO_12; clear HO_13; clear HO_14; clear HO_15; clear HO497; clear HO501; clear HO505; clear HB; have HO_10 := n0_; have HO_12 := n1_; have HO_13 := n2_; have HO_14 := n3_; have HO_15 := n4_; have HO497 := n5_; have HO501 := n6_; have HO505 := n7_; have HB := n8_; clear n0_ n1_ n2_ n3_ n4_ n5_ n6_ n7_ n8_; (try clear hb); (try clear hb2); (try clear hk); (try clear hi)))
                          go_meet
                          case rel => exact ⟨_, (true), (by first | rfl | (simp; done) | (simp [*]; done)), H', ⟨by have := HJ16.out; first | omega | exact Nat.le_refl _⟩, ⟨by (with_reducible repeat (first | apply Kd.R_alloc | apply Kd.R_drewN | apply Kd.R_drew)); exact HO_10.out⟩, ⟨by (with_reducible repeat (first | apply Kd.R_alloc | apply Kd.R_drewN | apply Kd.R_drew)); exact HO_15.out⟩, ⟨by repeat (first | (with_reducible first | exact HB.out | apply below_alloc | apply pw_below_drewN | apply below_drew1) | exact HB.out)⟩⟩
                    case rest =>
                      clear HC53
                      try clear c1
                      try clear c2
                      try clear p2
                      try clear c3
                      try clear c4
                      try clear c5
                      try clear c5b0
                      try clear c5b1
                      try clear c6
                      try clear c6b0
                      try clear c6b1
                      try clear c8
                      try clear c8b0
                      try clear c13
                      try clear c14
                      try clear c21
                      try clear c23
                      try clear c24
                      try clear c27
                      try clear c28
                      try clear c29
                      try clear c30
                      try clear c33
                      try clear c40
                      try clear c43
                      try clear c46
                      try clear c49
                      try clear c64
                      try clear c64b0
                      try clear c66
                      try clear p2
                      obtain ⟨kq, x103_52, rfl, HA, HJ52, HO_10, HO_15, HB⟩ := hcut
                      cases kq with
                      | zero => exact absurd HA.out (by simp [laws_FnExactMissedWalks.j1])
                      | succ kj52 =>
                        have H := HA.out
                        clear HA
                        simp only [laws_FnExactMissedWalks.j1] at H
                        by_cases c73 : x103_52 = true
                        · subst c73
                          have H1 : (some false) = some r := by rw [if_pos rfl] at H; exact H
                          clear H
                          have H := H1
                          clear H1
                          exact absurd ((Option.some.inj H).trans HTrue_.out) (by decide)
                        · replace c73 := Bool.eq_false_iff.mpr c73
                          subst c73
                          have H1 : ((laws_markInt64A2S.f kj52 t490 1).bind fun bt514 => ((laws_heldInt64A2S.f kj52 bt514.2 1).bind fun t516 => (if t516 < 0 then (some false) else (if t516 = bt514.1 then ((laws_toRow.f kj52 l0).bind fun t517 => ((laws_toWalkerS.f kj52 l1).bind fun t520 => ((laws_toRow.f kj52 l3).bind fun t523 => ((impl_MissedWalks.f kj52 t517 t520 a2 t523).bind fun bt526 => ((laws_eqInt64A2S.f kj52 bt526.1 t477).bind fun t530 => (if t530 = true then (laws_FnExactMissedWalks.j2 kj52 bt514.2 bt514.1 (bt526.2 != t478)) else (laws_FnExactMissedWalks.j2 kj52 bt514.2 bt514.1 true))))))) else (some false))))) = some r := by rw [if_neg (show ¬ (false = true) by decide)] at H; exact H
                          clear H
                          have H := H1
                          clear H1
                          replace H := Option.bind_eq_some_iff.mp H
                          obtain ⟨⟨t514, t515⟩, A740, H⟩ := H
                          replace H : ((laws_heldInt64A2S.f kj52 t515 1).bind fun t516 => (if t516 < 0 then (some false) else (if t516 = t514 then ((laws_toRow.f kj52 l0).bind fun t517 => ((laws_toWalkerS.f kj52 l1).bind fun t520 => ((laws_toRow.f kj52 l3).bind fun t523 => ((impl_MissedWalks.f kj52 t517 t520 a2 t523).bind fun bt526 => ((laws_eqInt64A2S.f kj52 bt526.1 t477).bind fun t530 => (if t530 = true then (laws_FnExactMissedWalks.j2 kj52 t515 t514 (bt526.2 != t478)) else (laws_FnExactMissedWalks.j2 kj52 t515 t514 true))))))) else (some false)))) = some r := H
                          have A74 := Aside0.mk A740
                          clear A740
                          replace H := Option.bind_eq_some_iff.mp H
                          obtain ⟨t516, A750, H⟩ := H
                          replace H : (if t516 < 0 then (some false) else (if t516 = t514 then ((laws_toRow.f kj52 l0).bind fun t517 => ((laws_toWalkerS.f kj52 l1).bind fun t520 => ((laws_toRow.f kj52 l3).bind fun t523 => ((impl_MissedWalks.f kj52 t517 t520 a2 t523).bind fun bt526 => ((laws_eqInt64A2S.f kj52 bt526.1 t477).bind fun t530 => (if t530 = true then (laws_FnExactMissedWalks.j2 kj52 t515 t514 (bt526.2 != t478)) else (laws_FnExactMissedWalks.j2 kj52 t515 t514 true))))))) else (some false))) = some r := H
                          have A75 := Aside0.mk A750
                          clear A750
                          by_cases c76 : t516 < 0
                          · rw [if_pos c76] at H
                            have c76b0 : decide (t516 < 0) = true := decide_eq_true c76
                            clear c76
                            exact absurd ((Option.some.inj H).trans HTrue_.out) (by decide)
                          · rw [if_neg c76] at H
                            have c76b0 : decide (t516 < 0) = false := decide_eq_false c76
                            clear c76
                            by_cases c77 : t516 = t514
                            · rw [if_pos c77] at H
                              have c77b0 : (t516 == t514) = true := beq_iff_eq.mpr c77
                              have c77b1 : (t516 != t514) = false := bne_eq_false_iff_eq.mpr c77
                              clear c77
                              replace H := Option.bind_eq_some_iff.mp H
                              obtain ⟨t517, A780, H⟩ := H
                              replace H : ((laws_toWalkerS.f kj52 l1).bind fun t520 => ((laws_toRow.f kj52 l3).bind fun t523 => ((impl_MissedWalks.f kj52 t517 t520 a2 t523).bind fun bt526 => ((laws_eqInt64A2S.f kj52 bt526.1 t477).bind fun t530 => (if t530 = true then (laws_FnExactMissedWalks.j2 kj52 t515 t514 (bt526.2 != t478)) else (laws_FnExactMissedWalks.j2 kj52 t515 t514 true)))))) = some r := H
                              have A78 := Aside0.mk A780
                              clear A780
                              replace H := Option.bind_eq_some_iff.mp H
                              obtain ⟨t520, A790, H⟩ := H
                              replace H : ((laws_toRow.f kj52 l3).bind fun t523 => ((impl_MissedWalks.f kj52 t517 t520 a2 t523).bind fun bt526 => ((laws_eqInt64A2S.f kj52 bt526.1 t477).bind fun t530 => (if t530 = true then (laws_FnExactMissedWalks.j2 kj52 t515 t514 (bt526.2 != t478)) else (laws_FnExactMissedWalks.j2 kj52 t515 t514 true))))) = some r := H
                              have A79 := Aside0.mk A790
                              clear A790
                              replace H := Option.bind_eq_some_iff.mp H
                              obtain ⟨t523, A800, H⟩ := H
                              replace H : ((impl_MissedWalks.f kj52 t517 t520 a2 t523).bind fun bt526 => ((laws_eqInt64A2S.f kj52 bt526.1 t477).bind fun t530 => (if t530 = true then (laws_FnExactMissedWalks.j2 kj52 t515 t514 (bt526.2 != t478)) else (laws_FnExactMissedWalks.j2 kj52 t515 t514 true)))) = some r := H
                              have A80 := Aside0.mk A800
                              clear A800
                              replace H := Option.bind_eq_some_iff.mp H
                              obtain ⟨⟨t526, t527⟩, A810, H⟩ := H
                              replace H : ((laws_eqInt64A2S.f kj52 t526 t477).bind fun t530 => (if t530 = true then (laws_FnExactMissedWalks.j2 kj52 t515 t514 (t527 != t478)) else (laws_FnExactMissedWalks.j2 kj52 t515 t514 true))) = some r := H
                              have A81 := Aside0.mk A810
                              clear A810
                              have HC82 := Aside0.mk H
                              clear H
                              obtain ⟨Ao83, co83, eo83⟩ := Kd.R_slice HO_15.out
                              subst eo83
                              go_upto_region 37 with (first | ((with_reducible refine gate_callee (f := 34) rfl ?_); refine goesL_ (some 106) rfl rfl Try.func34 (by kernel_rfl) rfl #[.slice Ao83 t490.length co83, .int .i64 1] rfl (by (try simp only [List.map_toArray, List.map_cons, List.map_nil]); first | done | rfl | (simp only [List.length_drop, List.length_take]; rfl)) ?_; (with_reducible refine (laws_markInt64A2S.calls kj52 (fun k_ => some k_ = (.slice Ao83 t490.length co83 : Value).ownBlock) (.slice Ao83 t490.length co83) t490 1 t514 t515 w _ ?side1 ?side2 A74.out).mono ?_); (case side1 => repeat (first | (with_reducible first | exact HB.out | apply below_alloc | apply pw_below_drewN | apply below_drew1) | exact HB.out)); (case side2 => exact Kd.R_tight rfl HO_15.out); rintro e w84 ⟨rfl, hy0, hb, hkp⟩; refine ⟨_, rfl, ?_⟩; have n0_ := Aside0.mk (Kd.R_mono (ok' := fun k_ => some k_ ≠ (.slice Ao83 t490.length co83 : Value).ownBlock) (Kd.R_keptB (HO_10.out) hkp (fun k_ hk_ hs_ => (hk_) hs_)) (fun k_ hk_ => hk_.1)); have n1_ := Aside0.mk (Kd.R_reok rfl hy0 (fun k_ e_ => HO_15.out.1 k_ e_)); have n2_ := Aside0.mk (hb); clear HO_10; clear HO_15; clear HB; have HO_10 := n0_; have HO_15 := n1_; have HB := n2_; clear n0_ n1_ n2_; (try clear hb); (try clear hkp); (try clear hy0)) | ((with_reducible refine gate_callee (f := 35) rfl ?_); refine goesL_ (some 109) rfl rfl Try.func35 (by kernel_rfl) rfl #[.slice Ao83 t515.length co83, .int .i64 1] rfl (by (try simp only [List.map_toArray, List.map_cons, List.map_nil]); first | done | (rw [show t515.length = t490.length from (Kd.R_reads' HO_15.out).1.symm] <;> rfl) | rfl | (simp only [List.length_drop, List.length_take]; rfl)) ?_; (with_reducible refine (laws_heldInt64A2S.calls kj52 _ _ t515 1 t516 _ ?side1 ?side2 A75.out).mono ?_); (case side1 => repeat (first | exact (Kd.R_reads' HO_15.out).2.2 | (with_reducible refine Kd.C_alloc ?_ _) | (with_reducible refine Kd.C_drewN ?_ _) | (with_reducible refine Kd.C_drew ?_))); (case side2 => rw [show t515.length = t490.length from (Kd.R_reads' HO_15.out).1.symm]; exact (Kd.R_reads' HO_15.out).2.1); rintro e w' ⟨rfl, ⟨nd, rfl⟩⟩; refine ⟨_, rfl, ?_⟩) | ((with_reducible refine gate_callee (f := 23) rfl ?_); refine goesL_ (some 117) rfl rfl Try.func23 (by kernel_rfl) rfl #[.slice A0 l0.length c0] rfl (by (try simp only [List.map_toArray, List.map_cons, List.map_nil]); first | done | rfl | (simp only [List.length_drop, List.length_take]; rfl)) ?_; (with_reducible refine (laws_toRow.calls kj52 _ _ l0 t517 _ ?side1 ?side2 A78.out).mono ?_); (case side1 => repeat (first | exact (Kd.C_below HR0.out (by repeat (first | (with_reducible first | exact HB.out | apply below_alloc | apply pw_below_drewN | apply below_drew1) | exact HB.out))) | (with_reducible refine Kd.C_alloc ?_ _) | (with_reducible refine Kd.C_drewN ?_ _) | (with_reducible refine Kd.C_drew ?_))); (case side2 => exact HC0.out); rintro e w85 ⟨v518, rfl, ho0, hb⟩; refine ⟨_, rfl, ?_⟩; have n0_ := Aside0.mk (Kd.R_below (by (with_reducible repeat (first | apply Kd.R_alloc | apply Kd.R_drewN | apply Kd.R_drew)); exact HO_10.out) hb); have n1_ := Aside0.mk (Kd.R_below (by (with_reducible repeat (first | apply Kd.R_alloc | apply Kd.R_drewN | apply Kd.R_drew)); exact HO_15.out) hb); have n2_ := Aside0.mk (Kd.R_lower ho0 (below_size (by repeat (first | (with_reducible first | exact HB.out | apply below_alloc | apply pw_below_drewN | apply below_drew1) | exact HB.out)))); have n3_ := Aside0.mk (below_step (by repeat (first | (with_reducible first | exact HB.out | apply below_alloc | apply pw_below_drewN | apply below_drew1) | exact HB.out)) hb); clear HO_10; clear HO_15; clear HB; have HO_10 := n0_; have HO_15 := n1_; have HO519 := n2_; have HB := n3_; clear n0_ n1_ n2_ n3_; (try clear hb); (try clear hb2); (try clear hk); (try clear hi); (try clear ho0)) | ((with_reducible refine gate_callee (f := 24) rfl ?_); refine goesL_ (some 119) rfl rfl Try.func24 (by kernel_rfl) rfl #[.slice A1 l1.length c1] rfl (by (try simp only [List.map_toArray, List.map_cons, List.map_nil]); first | done | rfl | (simp only [List.length_drop, List.length_take]; rfl)) ?_; (with_reducible refine (laws_toWalkerS.calls kj52 _ _ l1 t520 _ ?side1 ?side2 A79.out).mono ?_); (case side1 => repeat (first | exact (Kd.C_below HR1.out HB.out) | (with_reducible refine Kd.C_alloc ?_ _) | (with_reducible refine Kd.C_drewN ?_ _) | (with_reducible refine Kd.C_drew ?_))); (case side2 => exact HC1.out); rintro e w86 ⟨v521, rfl, ho0, hb⟩; refine ⟨_, rfl, ?_⟩; have n0_ := Aside0.mk (Kd.R_below (by (with_reducible repeat (first | apply Kd.R_alloc | apply Kd.R_drewN | apply Kd.R_drew)); exact HO_10.out) hb); have n1_ := Aside0.mk (Kd.R_below (by (with_reducible repeat (first | apply Kd.R_alloc | apply Kd.R_drewN | apply Kd.R_drew)); exact HO_15.out) hb); have n2_ := Aside0.mk (Kd.R_below (by (with_reducible repeat (first | apply Kd.R_alloc | apply Kd.R_drewN | apply Kd.R_drew)); exact HO519.out) hb); have n3_ := Aside0.mk (Kd.R_lower ho0 (below_size (by repeat (first | (with_reducible first | exact HB.out | apply below_alloc | apply pw_below_drewN | apply below_drew1) | exact HB.out)))); have n4_ := Aside0.mk (below_step (by repeat (first | (with_reducible first | exact HB.out | apply below_alloc | apply pw_below_drewN | apply below_drew1) | exact HB.out)) hb); clear HO_10; clear HO_15; clear HO519; clear HB; have HO_10 := n0_; have HO_15 := n1_; have HO519 := n2_; have HO522 := n3_; have HB := n4_; clear n0_ n1_ n2_ n3_ n4_; (try clear hb); (try clear hb2); (try clear hk); (try clear hi); (try clear ho0)) | ((with_reducible refine gate_callee (f := 23) rfl ?_); refine goesL_ (some 122) rfl rfl Try.func23 (by kernel_rfl) rfl #[.slice A3 l3.length c3] rfl (by (try simp only [List.map_toArray, List.map_cons, List.map_nil]); first | done | rfl | (simp only [List.length_drop, List.length_take]; rfl)) ?_; (with_reducible refine (laws_toRow.calls kj52 _ _ l3 t523 _ ?side1 ?side2 A80.out).mono ?_); (case side1 => repeat (first | exact (Kd.C_below HR3.out HB.out) | (with_reducible refine Kd.C_alloc ?_ _) | (with_reducible refine Kd.C_drewN ?_ _) | (with_reducible refine Kd.C_drew ?_))); (case side2 => exact HC3.out); rintro e w87 ⟨v524, rfl, ho0, hb⟩; refine ⟨_, rfl, ?_⟩; have n0_ := Aside0.mk (Kd.R_below (by (with_reducible repeat (first | apply Kd.R_alloc | apply Kd.R_drewN | apply Kd.R_drew)); exact HO_10.out) hb); have n1_ := Aside0.mk (Kd.R_below (by (with_reducible repeat (first | apply Kd.R_alloc | apply Kd.R_drewN | apply Kd.R_drew)); exact HO_15.out) hb); have n2_ := Aside0.mk (Kd.R_elder' (by (with_reducible repeat (first | apply Kd.R_alloc | apply Kd.R_drewN | apply Kd.R_drew)); exact HO519.out) (Kd.R_base ho0) hb); have n3_ := Aside0.mk (Kd.R_below (by (with_reducible repeat (first | apply Kd.R_alloc | apply Kd.R_drewN | apply Kd.R_drew)); exact HO522.out) hb); have n4_ := Aside0.mk (Kd.R_lower (Kd.R_new' ho0 (Kd.R_lt (by (with_reducible repeat (first | apply Kd.R_alloc | apply Kd.R_drewN | apply Kd.R_drew)); exact HO519.out))) (below_size (by repeat (first | (with_reducible first | exact HB.out | apply below_alloc | apply pw_below_drewN | apply below_drew1) | exact HB.out)))); have n5_ := Aside0.mk (below_step (by repeat (first | (with_reducible first | exact HB.out | apply below_alloc | apply pw_below_drewN | apply below_drew1) | exact HB.out)) hb); clear HO_10; clear HO_15; clear HO519; clear HO522; clear HB; have HO_10 := n0_; have HO_15 := n1_; have HO519 := n2_; have HO522 := n3_; have HO525 := n4_; have HB := n5_; clear n0_ n1_ n2_ n3_ n4_ n5_; (try clear hb); (try clear hb2); (try clear hk); (try clear hi); (try clear ho0); obtain ⟨Ao88, co88, eo88⟩ := Kd.R_slice HO519.out; subst eo88; obtain ⟨Ao89, co89, eo89⟩ := Kd.R_slice HO522.out; subst eo89; obtain ⟨Ao90, co90, eo90⟩ := Kd.R_slice HO525.out; subst eo90) | ((with_reducible refine gate_callee (f := 13) rfl ?_); refine goesL_ (some 123) rfl rfl Try.func13 (by kernel_rfl) rfl #[.slice Ao88 t517.length co88, .slice Ao89 t520.length co89, .int .i64 a2, .slice Ao90 t523.length co90] rfl (by (try simp only [List.map_toArray, List.map_cons, List.map_nil]); first | done | rfl | (simp only [List.length_drop, List.length_take]; rfl)) ?_; (with_reducible refine (impl_MissedWalks.calls kj52 _ _ t517 _ _ t520 a2 _ _ t523 t526 t527 _ ?side1 ?side2 ?side3 ?side4 ?side5 ?side6 A81.out).mono ?_); (case side1 => repeat (first | exact (Kd.R_reads' HO519.out).2.2 | (with_reducible refine Kd.C_alloc ?_ _) | (with_reducible refine Kd.C_drewN ?_ _) | (with_reducible refine Kd.C_drew ?_))); (case side2 => exact (Kd.R_reads' HO519.out).2.1); (case side3 => repeat (first | exact (Kd.R_reads' HO522.out).2.2 | (with_reducible refine Kd.C_alloc ?_ _) | (with_reducible refine Kd.C_drewN ?_ _) | (with_reducible refine Kd.C_drew ?_))); (case side4 => exact (Kd.R_reads' HO522.out).2.1); (case side5 => repeat (first | exact (Kd.R_reads' HO525.out).2.2 | (with_reducible refine Kd.C_alloc ?_ _) | (with_reducible refine Kd.C_drewN ?_ _) | (with_reducible refine Kd.C_drew ?_))); (case side6 => exact (Kd.R_reads' HO525.out).2.1); rintro e w91 ⟨v528, rfl, ho0, hb⟩; refine ⟨_, rfl, ?_⟩; have n0_ := Aside0.mk (Kd.R_elder' (by (with_reducible repeat (first | apply Kd.R_alloc | apply Kd.R_drewN | apply Kd.R_drew)); exact HO_10.out) (Kd.R_base ho0) hb); have n1_ := Aside0.mk (Kd.R_elder' (by (with_reducible repeat (first | apply Kd.R_alloc | apply Kd.R_drewN | apply Kd.R_drew)); exact HO_15.out) (Kd.R_base ho0) hb); have n2_ := Aside0.mk (Kd.R_below (by (with_reducible repeat (first | apply Kd.R_alloc | apply Kd.R_drewN | apply Kd.R_drew)); exact HO519.out) hb); have n3_ := Aside0.mk (Kd.R_below (by (with_reducible repeat (first | apply Kd.R_alloc | apply Kd.R_drewN | apply Kd.R_drew)); exact HO522.out) hb); have n4_ := Aside0.mk (Kd.R_below (by (with_reducible repeat (first | apply Kd.R_alloc | apply Kd.R_drewN | apply Kd.R_drew)); exact HO525.out) hb); have n5_ := Aside0.mk (Kd.R_lower (Kd.R_new' (Kd.R_new' ho0 (Kd.R_lt (by (with_reducible repeat (first | apply Kd.R_alloc | apply Kd.R_drewN | apply Kd.R_drew)); exact HO_10.out))) (Kd.R_lt (by (with_reducible repeat (first | apply Kd.R_alloc | apply Kd.R_drewN | apply Kd.R_drew)); exact HO_15.out))) (below_size (by repeat (first | (with_reducible first | exact HB.out | apply below_alloc | apply pw_below_drewN | apply below_drew1) | exact HB.out)))); have n6_ := Aside0.mk (below_step (by repeat (first | (with_reducible first | exact HB.out | apply below_alloc | apply pw_below_drewN | apply below_drew1) | exact HB.out)) hb); clear HO_10; clear HO_15; clear HO519; clear HO522; clear HO525; clear HB; have HO_10 := n0_; have HO_15 := n1_; have HO519 := n2_; have HO522 := n3_; have HO525 := n4_; have HO529 := n5_; have HB := n6_; clear n0_ n1_ n2_ n3_ n4_ n5_ n6_; (try clear hb); (try clear hb2); (try clear hk); (try clear hi); (try clear ho0)))
                              (try simp only [Act.put, List.setIfInBounds_toArray, List.set_cons_zero, List.set_cons_succ])
                              go_cut [134] (fun v134 wc => ∃ (kq : Nat) (x134_81 : Bool), v134 = .bool x134_81 ∧ Aside0 (laws_FnExactMissedWalks.j2 kq t515 t514 x134_81 = some r) ∧ Aside0 (kq ≤ kj52) ∧ Aside0 (Kd.R k40 40 wc w.heap.size (fun _ => True) (.slice Ao83 t490.length co83) t515) ∧ Aside0 (Below w.heap.size w wc))
                              case first =>
                                have H := HC82.out
                                clear HC82
                                replace H := Option.bind_eq_some_iff.mp H
                                obtain ⟨t530, A920, H⟩ := H
                                replace H : (if t530 = true then (laws_FnExactMissedWalks.j2 kj52 t515 t514 (t527 != t478)) else (laws_FnExactMissedWalks.j2 kj52 t515 t514 true)) = some r := H
                                have A92 := Aside0.mk A920
                                clear A920
                                by_cases c93 : t530 = true
                                · subst c93
                                  have H1 : (laws_FnExactMissedWalks.j2 kj52 t515 t514 (t527 != t478)) = some r := by rw [if_pos rfl] at H; exact H
                                  clear H
                                  have H := H1
                                  clear H1
                                  have H' := Aside0.mk H
                                  clear H
                                  obtain ⟨Ao94, co94, eo94⟩ := Kd.R_slice HO529.out
                                  subst eo94
                                  obtain ⟨Ao95, co95, eo95⟩ := Kd.R_slice HO_10.out
                                  subst eo95
                                  go_wp2_with (first | ((with_reducible refine gate_callee (f := 33) rfl ?_); refine goesL_ (some 128) rfl rfl Try.func33 (by kernel_rfl) rfl #[.slice Ao94 t526.length co94, .slice Ao95 t477.length co95] rfl (by (try simp only [List.map_toArray, List.map_cons, List.map_nil]); first | done | rfl | (simp only [List.length_drop, List.length_take]; rfl)) ?_; (with_reducible refine (laws_eqInt64A2S.calls kj52 _ _ t526 _ _ t477 true _ ?side1 ?side2 ?side3 ?side4 A92.out).mono ?_); (case side1 => repeat (first | exact (Kd.R_reads' HO529.out).2.2 | (with_reducible refine Kd.C_alloc ?_ _) | (with_reducible refine Kd.C_drewN ?_ _) | (with_reducible refine Kd.C_drew ?_))); (case side2 => exact (Kd.R_reads' HO529.out).2.1); (case side3 => repeat (first | exact (Kd.R_reads' HO_10.out).2.2 | (with_reducible refine Kd.C_alloc ?_ _) | (with_reducible refine Kd.C_drewN ?_ _) | (with_reducible refine Kd.C_drew ?_))); (case side4 => exact (Kd.R_reads' HO_10.out).2.1); rintro e w96 ⟨rfl, hb⟩; refine ⟨_, rfl, ?_⟩; have n0_ := Aside0.mk (Kd.R_below (by (with_reducible repeat (first | apply Kd.R_alloc | apply Kd.R_drewN | apply Kd.R_drew)); exact HO_10.out) hb); have n1_ := Aside0.mk (Kd.R_below (by (with_reducible repeat (first | apply Kd.R_alloc | apply Kd.R_drewN | apply Kd.R_drew)); exact HO_15.out) hb); have n2_ := Aside0.mk (Kd.R_below (by (with_reducible repeat (first | apply Kd.R_alloc | apply Kd.R_drewN | apply Kd.R_drew)); exact HO519.out) hb); have n3_ := Aside0.mk (Kd.R_below (by (with_reducible repeat (first | apply Kd.R_alloc | apply Kd.R_drewN | apply Kd.R_drew)); exact HO522.out) hb); have n4_ := Aside0.mk (Kd.R_below (by (with_reducible repeat (first | apply Kd.R_alloc | apply Kd.R_drewN | apply Kd.R_drew)); exact HO525.out) hb); have n5_ := Aside0.mk (Kd.R_below (by (with_reducible repeat (first | apply Kd.R_alloc | apply Kd.R_drewN | apply Kd.R_drew)); exact HO529.out) hb); have n6_ := Aside0.mk (below_step (by repeat (first | (with_reducible first | exact HB.out | apply below_alloc | apply pw_below_drewN | apply below_drew1) | exact HB.out)) hb); clear HO_10; clear HO_15; clear HO519; clear HO522; clear HO525; clear HO529; clear HB; have HO_10 := n0_; have HO_15 := n1_; have HO519 := n2_; have HO522 := n3_; have HO525 := n4_; have HO529 := n5_; have HB := n6_; clear n0_ n1_ n2_ n3_ n4_ n5_ n6_; (try clear hb); (try clear hb2); (try clear hk); (try clear hi)))
                                  go_meet
                                  case rel => exact ⟨_, ((t527 != t478)), (by first | rfl | (simp; done) | (simp [*]; done)), H', ⟨by have := HJ16.out; have := HJ52.out; first | omega | exact Nat.le_refl _⟩, ⟨by (with_reducible repeat (first | apply Kd.R_alloc | apply Kd.R_drewN | apply Kd.R_drew)); exact Kd.R_mono HO_15.out (fun _ hk => trivial)⟩, ⟨by repeat (first | (with_reducible first | exact HB.out | apply below_alloc | apply pw_below_drewN | apply below_drew1) | exact HB.out)⟩⟩
                                · replace c93 := Bool.eq_false_iff.mpr c93
                                  subst c93
                                  have H1 : (laws_FnExactMissedWalks.j2 kj52 t515 t514 true) = some r := by rw [if_neg (show ¬ (false = true) by decide)] at H; exact H
                                  clear H
                                  have H := H1
                                  clear H1
                                  have H' := Aside0.mk H
                                  clear H
                                  obtain ⟨Ao97, co97, eo97⟩ := Kd.R_slice HO529.out
                                  subst eo97
                                  obtain ⟨Ao98, co98, eo98⟩ := Kd.R_slice HO_10.out
                                  subst eo98
                                  go_wp2_with (first | ((with_reducible refine gate_callee (f := 33) rfl ?_); refine goesL_ (some 128) rfl rfl Try.func33 (by kernel_rfl) rfl #[.slice Ao97 t526.length co97, .slice Ao98 t477.length co98] rfl (by (try simp only [List.map_toArray, List.map_cons, List.map_nil]); first | done | rfl | (simp only [List.length_drop, List.length_take]; rfl)) ?_; (with_reducible refine (laws_eqInt64A2S.calls kj52 _ _ t526 _ _ t477 false _ ?side1 ?side2 ?side3 ?side4 A92.out).mono ?_); (case side1 => repeat (first | exact (Kd.R_reads' HO529.out).2.2 | (with_reducible refine Kd.C_alloc ?_ _) | (with_reducible refine Kd.C_drewN ?_ _) | (with_reducible refine Kd.C_drew ?_))); (case side2 => exact (Kd.R_reads' HO529.out).2.1); (case side3 => repeat (first | exact (Kd.R_reads' HO_10.out).2.2 | (with_reducible refine Kd.C_alloc ?_ _) | (with_reducible refine Kd.C_drewN ?_ _) | (with_reducible refine Kd.C_drew ?_))); (case side4 => exact (Kd.R_reads' HO_10.out).2.1); rintro e w99 ⟨rfl, hb⟩; refine ⟨_, rfl, ?_⟩; have n0_ := Aside0.mk (Kd.R_below (by (with_reducible repeat (first | apply Kd.R_alloc | apply Kd.R_drewN | apply Kd.R_drew)); exact HO_10.out) hb); have n1_ := Aside0.mk (Kd.R_below (by (with_reducible repeat (first | apply Kd.R_alloc | apply Kd.R_drewN | apply Kd.R_drew)); exact HO_15.out) hb); have n2_ := Aside0.mk (Kd.R_below (by (with_reducible repeat (first | apply Kd.R_alloc | apply Kd.R_drewN | apply Kd.R_drew)); exact HO519.out) hb); have n3_ := Aside0.mk (Kd.R_below (by (with_reducible repeat (first | apply Kd.R_alloc | apply Kd.R_drewN | apply Kd.R_drew)); exact HO522.out) hb); have n4_ := Aside0.mk (Kd.R_below (by (with_reducible repeat (first | apply Kd.R_alloc | apply Kd.R_drewN | apply Kd.R_drew)); exact HO525.out) hb); have n5_ := Aside0.mk (Kd.R_below (by (with_reducible repeat (first | apply Kd.R_alloc | apply Kd.R_drewN | apply Kd.R_drew)); exact HO529.out) hb); have n6_ := Aside0.mk (below_step (by repeat (first | (with_reducible first | exact HB.out | apply below_alloc | apply pw_below_drewN | apply below_drew1) | exact HB.out)) hb); clear HO_10; clear HO_15; clear HO519; clear HO522; clear HO525; clear HO529; clear HB; have HO_10 := n0_; have HO_15 := n1_; have HO519 := n2_; have HO522 := n3_; have HO525 := n4_; have HO529 := n5_; have HB := n6_; clear n0_ n1_ n2_ n3_ n4_ n5_ n6_; (try clear hb); (try clear hb2); (try clear hk); (try clear hi)))
                                  go_meet
                                  case rel => exact ⟨_, (true), (by first | rfl | (simp; done) | (simp [*]; done)), H', ⟨by have := HJ16.out; have := HJ52.out; first | omega | exact Nat.le_refl _⟩, ⟨by (with_reducible repeat (first | apply Kd.R_alloc | apply Kd.R_drewN | apply Kd.R_drew)); exact Kd.R_mono HO_15.out (fun _ hk => trivial)⟩, ⟨by repeat (first | (with_reducible first | exact HB.out | apply below_alloc | apply pw_below_drewN | apply below_drew1) | exact HB.out)⟩⟩
                              case rest =>
                                clear HC82
                                try clear c1
                                try clear c2
                                try clear p2
                                try clear c3
                                try clear c4
                                try clear c5
                                try clear c5b0
                                try clear c5b1
                                try clear c6
                                try clear c6b0
                                try clear c6b1
                                try clear c7
                                try clear c8
                                try clear c8b0
                                try clear c9
                                try clear c13
                                try clear c14
                                try clear c21
                                try clear c23
                                try clear c24
                                try clear c27
                                try clear c28
                                try clear c29
                                try clear c30
                                try clear c33
                                try clear c34
                                try clear c35
                                try clear c40
                                try clear c43
                                try clear c46
                                try clear c49
                                try clear c64
                                try clear c64b0
                                try clear c66
                                try clear c73
                                try clear c76
                                try clear c76b0
                                try clear c77
                                try clear c77b0
                                try clear c77b1
                                try clear c93
                                try clear p2
                                obtain ⟨kq, x134_81, rfl, HA, HJ81, HO_15, HB⟩ := hcut
                                have hl15_81 := (Kd.R_reads' HO_15.out).1
                                rw [hl15_81] at HO_15
                                (try simp only [hl15_81])
                                cases kq with
                                | zero => exact absurd HA.out (by simp [laws_FnExactMissedWalks.j2])
                                | succ kj81 =>
                                  have H := HA.out
                                  clear HA
                                  simp only [laws_FnExactMissedWalks.j2] at H
                                  by_cases c100 : x134_81 = true
                                  · subst c100
                                    have H1 : (some false) = some r := by rw [if_pos rfl] at H; exact H
                                    clear H
                                    have H := H1
                                    clear H1
                                    exact absurd ((Option.some.inj H).trans HTrue_.out) (by decide)
                                  · replace c100 := Bool.eq_false_iff.mpr c100
                                    subst c100
                                    have H1 : ((laws_heldInt64A2S.f kj81 t515 1).bind fun t531 => (if t531 < 0 then (some false) else (if t531 = t514 then (some true) else (some false)))) = some r := by rw [if_neg (show ¬ (false = true) by decide)] at H; exact H
                                    clear H
                                    have H := H1
                                    clear H1
                                    replace H := Option.bind_eq_some_iff.mp H
                                    obtain ⟨t531, A1010, H⟩ := H
                                    replace H : (if t531 < 0 then (some false) else (if t531 = t514 then (some true) else (some false))) = some r := H
                                    have A101 := Aside0.mk A1010
                                    clear A1010
                                    by_cases c102 : t531 < 0
                                    · rw [if_pos c102] at H
                                      have c102b0 : decide (t531 < 0) = true := decide_eq_true c102
                                      clear c102
                                      exact absurd ((Option.some.inj H).trans HTrue_.out) (by decide)
                                    · rw [if_neg c102] at H
                                      have c102b0 : decide (t531 < 0) = false := decide_eq_false c102
                                      clear c102
                                      by_cases c103 : t531 = t514
                                      · rw [if_pos c103] at H
                                        have c103b0 : (t531 == t514) = true := beq_iff_eq.mpr c103
                                        have c103b1 : (t531 != t514) = false := bne_eq_false_iff_eq.mpr c103
                                        clear c103
                                        obtain rfl := Option.some.inj H
                                        go_wp2_with (first | ((with_reducible refine gate_callee (f := 35) rfl ?_); refine goesL_ (some 137) rfl rfl Try.func35 (by kernel_rfl) rfl #[.slice Ao83 t515.length co83, .int .i64 1] rfl (by (try simp only [List.map_toArray, List.map_cons, List.map_nil]); first | done | rfl | (simp only [List.length_drop, List.length_take]; rfl)) ?_; (with_reducible refine (laws_heldInt64A2S.calls kj81 _ _ t515 1 t531 _ ?side1 ?side2 A101.out).mono ?_); (case side1 => repeat (first | exact (Kd.R_reads' HO_15.out).2.2 | (with_reducible refine Kd.C_alloc ?_ _) | (with_reducible refine Kd.C_drewN ?_ _) | (with_reducible refine Kd.C_drew ?_))); (case side2 => exact (Kd.R_reads' HO_15.out).2.1); rintro e w' ⟨rfl, ⟨nd, rfl⟩⟩; refine ⟨_, rfl, ?_⟩))
                                        go_ret
                                        exact ⟨by first | rfl | (simp [errW_none, errW_some] <;> rfl) | (simp [*, errW_none, errW_some] <;> rfl), by repeat (first | (with_reducible first | exact HB.out | apply below_alloc | apply pw_below_drewN | apply below_drew1) | exact HB.out)⟩
                                      · rw [if_neg c103] at H
                                        have c103b0 : (t531 == t514) = false := beq_eq_false_iff_ne.mpr c103
                                        have c103b1 : (t531 != t514) = true := bne_iff_ne.mpr c103
                                        exact absurd ((Option.some.inj H).trans HTrue_.out) (by decide)
                            · rw [if_neg c77] at H
                              have c77b0 : (t516 == t514) = false := beq_eq_false_iff_ne.mpr c77
                              have c77b1 : (t516 != t514) = true := bne_iff_ne.mpr c77
                              exact absurd ((Option.some.inj H).trans HTrue_.out) (by decide)
                  · replace c49 := Bool.eq_false_iff.mpr c49
                    subst c49
                    have H1 : (some false) = some r := by rw [if_neg (show ¬ (false = true) by decide)] at H; exact H
                    clear H
                    have H := H1
                    clear H1
                    exact absurd ((Option.some.inj H).trans HTrue_.out) (by decide)
                · replace c46 := Bool.eq_false_iff.mpr c46
                  subst c46
                  have H1 : (some false) = some r := by rw [if_neg (show ¬ (false = true) by decide)] at H; exact H
                  clear H
                  have H := H1
                  clear H1
                  exact absurd ((Option.some.inj H).trans HTrue_.out) (by decide)
              · replace c43 := Bool.eq_false_iff.mpr c43
                subst c43
                have H1 : (some false) = some r := by rw [if_neg (show ¬ (false = true) by decide)] at H; exact H
                clear H
                have H := H1
                clear H1
                exact absurd ((Option.some.inj H).trans HTrue_.out) (by decide)
end Go.Proofs.Ytmheflciiodhdaa.P
/- Plain lemmas on rounds and on lists, for the pure statements. -/
namespace Go.Proofs.Ytmheflciiodhdaa.P
open Go.RowKit Go.Proofs.YtmheflciiodhdaaW.PrintWords Go.Proofs.YtmheflciiodhdaaW.PrintLast Go.Proofs.YtmheflciiodhdaaW.PrintMore
theorem w64 {x : Int} (h0 : -9223372036854775808 ≤ x) (h1 : x ≤ 9223372036854775807) : wrap64 x = x := by unfold wrap64; omega
theorem Ev.some {α : Type} {g : Nat → Option α} {r : α} (h : ∀ k, g k = some r) : Ev g r := ⟨0, fun k _ => h k⟩
theorem Ev.pure {α : Type} (r : α) : Ev (fun _ => Option.some r) r := ⟨0, fun _ _ => rfl⟩
theorem Ev.one {α : Type} {g : Nat → Option α} {r : α} (h : ∀ k, g (k + 1) = Option.some r) : Ev g r :=
  ⟨1, fun k hk => by obtain ⟨m, rfl⟩ : ∃ m, k = m + 1 := ⟨k - 1, by omega⟩; exact h m⟩
theorem Ev.at {α : Type} {g : Nat → Option α} {r : α} (h : Ev g r) : ∃ k, g k = Option.some r := by obtain ⟨K, hK⟩ := h; exact ⟨K, hK K (Nat.le_refl _)⟩
theorem Ev.unique {α : Type} {g : Nat → Option α} {r r' : α} (h : Ev g r) (h' : Ev g r') : r = r' := by
  obtain ⟨K, hK⟩ := h
  obtain ⟨K', hK'⟩ := h'
  have a := hK (max K K') (Nat.le_max_left _ _)
  have b := hK' (max K K') (Nat.le_max_right _ _)
  rw [a] at b
  exact Option.some.inj b
/-- A loop over i = 0, 1, .., n: each round goes on. -/
theorem Ev.loop {σ ρ : Type} (l : Nat → σ → Int → Option ρ) (n : Nat) (I : Nat → σ → Prop) (r : ρ)
    (hs : ∀ i s, i < n → I i s → ∃ s', I (i + 1) s' ∧ (Ev (fun k => l k s' ((i : Int) + 1)) r → Ev (fun k => l k s (i : Int)) r))
    (he : ∀ s, I n s → Ev (fun k => l k s (n : Int)) r) : ∀ (d i : Nat) (s : σ), i + d = n → I i s → Ev (fun k => l k s (i : Int)) r
  | 0, i, s, hd, hI => by
    obtain rfl : i = n := by omega
    exact he s hI
  | d + 1, i, s, hd, hI => by
    obtain ⟨s', hI', hk⟩ := hs i s (by omega) hI
    refine hk ?_
    have := Ev.loop l n I r hs he d (i + 1) s' (by omega) hI'
    simpa using this
theorem rd_lt {xs : List Int} {i : Nat} (h : i < xs.length) : rd xs (i : Int) = xs[i] := by simp [rd, h]
theorem set_rd_take {xs acc : List Int} {i : Nat} (h : i < xs.length) (hl : acc.length = xs.length) (ht : acc.take i = xs.take i) : (acc.set i (rd xs i)).take (i + 1) = xs.take (i + 1) := by
  rw [List.take_succ_eq_append_getElem (by simpa [hl] using h), List.take_succ_eq_append_getElem h, List.take_set_of_le (by omega), ht]
  simp [rd_lt h]
theorem eq_of_take {α : Type} {a b : List α} (hl : a.length = b.length) (h : a.take b.length = b.take b.length) : a = b := by
  rw [List.take_length] at h
  rw [← h, ← hl, List.take_length]
end Go.Proofs.Ytmheflciiodhdaa.P
-- Written by wip/tools/mkprint.py of this repo, over the kit's print, out of the translation; Lean checks it.
namespace Go.Proofs.Ytmheflciiodhdaa.P
open Go.RowKit Go.Proofs.YtmheflciiodhdaaW.PrintWords Go.Proofs.YtmheflciiodhdaaW.PrintLast Go.Proofs.YtmheflciiodhdaaW.PrintMore
attribute [local go_sem] max2_int min2_int max_two min_two max_three min_three max_four min_four   -- for this text's walks alone
set_option linter.unusedVariables false
set_option linter.unusedSimpArgs false
/-! ### laws_eqInt64S: function 26 -/
def laws_eqInt64S.l0 : Nat → List Int → List Int → Int → Option (Bool)
  | 0, _, _, _ => none
  | k + 1, x0, x1, x5 => if x5 < (x0.length : Int) then (if 0 ≤ x5 then (if x5 < (x1.length : Int) then (if (rd x0 x5) = (rd x1 x5) then (laws_eqInt64S.l0 k x0 x1 (wrap64 (x5 + 1))) else (some false)) else (none)) else (none)) else (some true)
def laws_eqInt64S.f (k : Nat) (l0 : List Int) (l1 : List Int) : Option (Bool) := if (l0.length : Int) = (l1.length : Int) then (laws_eqInt64S.l0 k l0 l1 0) else (some false)
theorem laws_eqInt64S.mono_l : ∀ k, (∀ y0 y1 y2, LeO (laws_eqInt64S.l0 k y0 y1 y2) (laws_eqInt64S.l0 (k + 1) y0 y1 y2))
  | 0 => fun _ _ _ r h => by simp [laws_eqInt64S.l0] at h
  | k + 1 => by
    have ih0 := laws_eqInt64S.mono_l k
    · intro y0 y1 y2
      unfold laws_eqInt64S.l0
      repeat' first
      | (with_reducible exact ih0 _ _ _)
      | (with_reducible exact LeO.refl _)
      | (with_reducible exact LeO.none _)
      | (with_reducible refine LeO.ite ?_ ?_)
      | (with_reducible refine LeO.bind ?_ (fun _ => ?_))
      | exact ih0 _ _ _
      | exact LeO.none _
      | refine LeO.ite ?_ ?_
      | refine LeO.bind ?_ (fun _ => ?_)
theorem laws_eqInt64S.mono : ∀ a0 a1 k, LeO (laws_eqInt64S.f k a0 a1) (laws_eqInt64S.f (k + 1) a0 a1) := by
  intro a0 a1 k
  have ih0 := laws_eqInt64S.mono_l k
  unfold laws_eqInt64S.f
  repeat' first
      | (with_reducible exact ih0 _ _ _)
      | (with_reducible exact LeO.refl _)
      | (with_reducible exact LeO.none _)
      | (with_reducible refine LeO.ite ?_ ?_)
      | (with_reducible refine LeO.bind ?_ (fun _ => ?_))
      | exact ih0 _ _ _
      | exact LeO.none _
      | refine LeO.ite ?_ ?_
      | refine LeO.bind ?_ (fun _ => ?_)
set_option maxHeartbeats 8000000 in
set_option maxRecDepth 100000 in
theorem laws_eqInt64S.calls (k : Nat) (A0 : Option Addr) (c0 : Nat) (l0 : List Int) (A1 : Option Addr) (c1 : Nat) (l1 : List Int) (r : Bool) (w : World) (hr0 : Kd.C (Kd.int .i64) w A0 l0.length l0) (hc0 : l0.length ≤ c0) (hr1 : Kd.C (Kd.int .i64) w A1 l1.length l1) (hc1 : l1.length ≤ c1) (h : laws_eqInt64S.f k l0 l1 = some r) :
    Calls Try.prog 26 #[.slice A0 l0.length c0, .slice A1 l1.length c1] w fun e w' => e = .returned (.bool r) ∧ Drawn0 w w' := by
  have HR0 := Aside0.mk hr0
  have HC0 := Aside0.mk hc0
  clear hr0 hc0
  have HR1 := Aside0.mk hr1
  have HC1 := Aside0.mk hc1
  clear hr1 hc1
  have H : (if (l0.length : Int) = (l1.length : Int) then (laws_eqInt64S.l0 k l0 l1 0) else (some false)) = some r := h
  clear h
  by_cases c3 : (l0.length : Int) = (l1.length : Int)
  · rw [if_pos c3] at H
    have c3b0 : ((l0.length : Int) == (l1.length : Int)) = true := beq_iff_eq.mpr c3
    have c3b1 : ((l0.length : Int) != (l1.length : Int)) = false := bne_eq_false_iff_eq.mpr c3
    have c3b2 : (l0.length == l1.length) = true := by first | simpa using c3 | (simp at c3 ⊢; omega)
    clear c3
    have H' := Aside0.mk H
    clear H
    go_enter Try.func26, Try.ntmps26
    go_wp2
    repeat (go_quiet (fail); try go_wp2)
    go_loopg [5] k (fun kq v5 w' => ∃ (x5_1 : Int), v5 = .int .i64 x5_1 ∧ Aside0 (laws_eqInt64S.l0 kq l0 l1 x5_1 = some r) ∧ Aside0 (kq ≤ k) ∧ Drawn0 w w')
    case atStart => exact ⟨(0), (by first | rfl | (simp; done) | (simp [*]; done)), H', ⟨Nat.le_refl _⟩, by repeat (first | exact Drawn0.refl _ | apply Drawn0.step)⟩
    case round =>
      clear H'
      try clear c1
      try clear c2
      try clear p2
      try clear c3
      try clear c3b0
      try clear c3b1
      try clear c3b2
      obtain ⟨x5_1, rfl, HA, HK1, ⟨m1, rfl⟩⟩ := hrel
      cases gk with
      | zero => exact absurd HA.out (by simp [laws_eqInt64S.l0])
      | succ k1 =>
        have H := HA.out
        clear HA
        simp only [laws_eqInt64S.l0] at H
        by_cases c4 : x5_1 < (l0.length : Int)
        · rw [if_pos c4] at H
          have c4b0 : decide (x5_1 < (l0.length : Int)) = true := decide_eq_true c4
          clear c4
          by_cases c5 : 0 ≤ x5_1
          · rw [if_pos c5] at H
            have c5b0 : decide (0 ≤ x5_1) = true := decide_eq_true c5
            clear c5
            by_cases c6 : x5_1 < (l1.length : Int)
            · rw [if_pos c6] at H
              have c6b0 : decide (x5_1 < (l1.length : Int)) = true := decide_eq_true c6
              clear c6
              by_cases c7 : (rd l0 x5_1) = (rd l1 x5_1)
              · rw [if_pos c7] at H
                have c7b0 : ((rd l0 x5_1) == (rd l1 x5_1)) = true := beq_iff_eq.mpr c7
                have c7b1 : ((rd l0 x5_1) != (rd l1 x5_1)) = false := bne_eq_false_iff_eq.mpr c7
                clear c7
                have H' := Aside0.mk H
                clear H
                have p396 : 0 ≤ (x5_1 : Int) := of_decide_eq_true (by first | (with_reducible assumption) | assumption)
                have q396 : x5_1 < (l0.length : Int) := of_decide_eq_true (by first | (with_reducible assumption) | assumption)
                obtain ⟨ad396, e396, hx396_0⟩ := Kd.at_int HR0.out x5_1 p396 q396
                cases e396
                replace p396 := eq_true p396
                replace q396 := eq_true q396
                have p397 : 0 ≤ (x5_1 : Int) := of_decide_eq_true (by first | (with_reducible assumption) | assumption)
                have q397 : x5_1 < (l1.length : Int) := of_decide_eq_true (by first | (with_reducible assumption) | assumption)
                obtain ⟨ad397, e397, hx397_0⟩ := Kd.at_int HR1.out x5_1 p397 q397
                cases e397
                replace p397 := eq_true p397
                replace q397 := eq_true q397
                go_wp2
                repeat (go_quiet (fail); try go_wp2)
                go_roundg k1
                case measure => have := HK1.out; omega
                case rel => exact ⟨(wrap64 (x5_1 + 1)), (by first | rfl | (simp; done) | (simp [*]; done)), H', ⟨by have := HK1.out; omega⟩, by repeat (first | exact Drawn0.refl _ | apply Drawn0.step)⟩
              · rw [if_neg c7] at H
                have c7b0 : ((rd l0 x5_1) == (rd l1 x5_1)) = false := beq_eq_false_iff_ne.mpr c7
                have c7b1 : ((rd l0 x5_1) != (rd l1 x5_1)) = true := bne_iff_ne.mpr c7
                obtain rfl := Option.some.inj H
                have p396 : 0 ≤ (x5_1 : Int) := of_decide_eq_true (by first | (with_reducible assumption) | assumption)
                have q396 : x5_1 < (l0.length : Int) := of_decide_eq_true (by first | (with_reducible assumption) | assumption)
                obtain ⟨ad396, e396, hx396_0⟩ := Kd.at_int HR0.out x5_1 p396 q396
                cases e396
                replace p396 := eq_true p396
                replace q396 := eq_true q396
                have p397 : 0 ≤ (x5_1 : Int) := of_decide_eq_true (by first | (with_reducible assumption) | assumption)
                have q397 : x5_1 < (l1.length : Int) := of_decide_eq_true (by first | (with_reducible assumption) | assumption)
                obtain ⟨ad397, e397, hx397_0⟩ := Kd.at_int HR1.out x5_1 p397 q397
                cases e397
                replace p397 := eq_true p397
                replace q397 := eq_true q397
                go_wp2
                repeat (go_quiet (fail); try go_wp2)
                go_ret
                exact ⟨by first | rfl | (simp; done) | (simp [*]; done), by repeat (first | exact Drawn0.refl _ | apply Drawn0.step)⟩
            · rw [if_neg c6] at H
              exact absurd H (by simp)
          · rw [if_neg c5] at H
            exact absurd H (by simp)
        · rw [if_neg c4] at H
          have c4b0 : decide (x5_1 < (l0.length : Int)) = false := decide_eq_false c4
          clear c4
          obtain rfl := Option.some.inj H
          go_wp2
          repeat (go_quiet (fail); try go_wp2)
          go_ret
          exact ⟨by first | rfl | (simp; done) | (simp [*]; done), by repeat (first | exact Drawn0.refl _ | apply Drawn0.step)⟩
  · rw [if_neg c3] at H
    have c3b0 : ((l0.length : Int) == (l1.length : Int)) = false := beq_eq_false_iff_ne.mpr c3
    have c3b1 : ((l0.length : Int) != (l1.length : Int)) = true := bne_iff_ne.mpr c3
    have c3b2 : (l0.length == l1.length) = false := by first | simpa using c3 | (simp at c3 ⊢; omega)
    obtain rfl := Option.some.inj H
    go_enter Try.func26, Try.ntmps26
    go_wp2
    repeat (go_quiet (fail); try go_wp2)
    go_ret
    exact ⟨by first | rfl | (simp; done) | (simp [*]; done), by repeat (first | exact Drawn0.refl _ | apply Drawn0.step)⟩
end Go.Proofs.Ytmheflciiodhdaa.P
-- Written by wip/tools/mkprint.py of this repo, over the kit's print, out of the translation; Lean checks it.
namespace Go.Proofs.Ytmheflciiodhdaa.P
open Go.RowKit Go.Proofs.YtmheflciiodhdaaW.PrintWords Go.Proofs.YtmheflciiodhdaaW.PrintLast Go.Proofs.YtmheflciiodhdaaW.PrintMore
attribute [local go_sem] max2_int min2_int max_two min_two max_three min_three max_four min_four   -- for this text's walks alone
set_option linter.unusedVariables false
set_option linter.unusedSimpArgs false
/-! ### laws_markInt64S: function 31 -/
def laws_markInt64S.l0 : Nat → List Int → Int → Int → Option (Int × List Int)
  | 0, _, _, _ => none
  | k + 1, x0, x1, x5 => if x5 < (x0.length : Int) then (if 0 ≤ x5 then (laws_markInt64S.l0 k (x0.set (x5 : Int).toNat x1) (wrap64 (x1 + 1)) (wrap64 (x5 + 1))) else (none)) else (some (x1, x0))
def laws_markInt64S.f (k : Nat) (l0 : List Int) (a1 : Int) : Option (Int × List Int) := laws_markInt64S.l0 k l0 a1 0
theorem laws_markInt64S.mono_l : ∀ k, (∀ y0 y1 y2, LeO (laws_markInt64S.l0 k y0 y1 y2) (laws_markInt64S.l0 (k + 1) y0 y1 y2))
  | 0 => fun _ _ _ r h => by simp [laws_markInt64S.l0] at h
  | k + 1 => by
    have ih0 := laws_markInt64S.mono_l k
    · intro y0 y1 y2
      unfold laws_markInt64S.l0
      repeat' first
      | (with_reducible exact ih0 _ _ _)
      | (with_reducible exact LeO.refl _)
      | (with_reducible exact LeO.none _)
      | (with_reducible refine LeO.ite ?_ ?_)
      | (with_reducible refine LeO.bind ?_ (fun _ => ?_))
      | exact ih0 _ _ _
      | exact LeO.none _
      | refine LeO.ite ?_ ?_
      | refine LeO.bind ?_ (fun _ => ?_)
theorem laws_markInt64S.mono : ∀ a0 a1 k, LeO (laws_markInt64S.f k a0 a1) (laws_markInt64S.f (k + 1) a0 a1) := by
  intro a0 a1 k
  have ih0 := laws_markInt64S.mono_l k
  unfold laws_markInt64S.f
  repeat' first
      | (with_reducible exact ih0 _ _ _)
      | (with_reducible exact LeO.refl _)
      | (with_reducible exact LeO.none _)
      | (with_reducible refine LeO.ite ?_ ?_)
      | (with_reducible refine LeO.bind ?_ (fun _ => ?_))
      | exact ih0 _ _ _
      | exact LeO.none _
      | refine LeO.ite ?_ ?_
      | refine LeO.bind ?_ (fun _ => ?_)
set_option maxHeartbeats 8000000 in
set_option maxRecDepth 100000 in
theorem laws_markInt64S.calls (k : Nat) (P0_ : Nat → Prop) (u9000_ : Value) (l0 : List Int) (a1 : Int) (r1 : Int) (r2 : List Int) (w0 w : World) (hB : Below w0.heap.size w0 w) (ho0 : Kd.R (Kd.int .i64) 2 w w0.heap.size P0_ u9000_ l0) (h : laws_markInt64S.f k l0 a1 = some (r1, r2)) :
    Calls Try.prog 31 #[u9000_, .int .i64 a1] w fun e w' => e = .returned (.int .i64 r1) ∧ Kd.R (Kd.int .i64) 2 w' w0.heap.size (fun k_ => (P0_ k_ ∨ w.heap.size ≤ k_)) u9000_ r2 ∧ Below w0.heap.size w0 w' ∧ Kept w w' (fun k_ => P0_ k_) := by
  have HO0 := Aside0.mk (show Kd.R (Kd.int .i64) 2 w w0.heap.size (fun k_ => (P0_ k_ ∨ w.heap.size ≤ k_)) u9000_ l0 from Kd.R_mono ho0 (fun k_ hk => (.inl hk)))
  have HK := Aside0.mk (Kept.refl w (fun k_ => P0_ k_))
  have HW0 := Aside0.mk hB.size
  have HB := Aside0.mk hB
  clear hB
  have H : (laws_markInt64S.l0 k l0 a1 0) = some (r1, r2) := h
  clear h
  have H' := Aside0.mk H
  clear H
  go_enter Try.func31, Try.ntmps31
  go_wp2
  go_loopg [1, 5] k (fun kq v1 v5 w' => ∃ (x0_1 : List Int) (x1_1 : Int) (x5_1 : Int), v1 = .int .i64 x1_1 ∧ v5 = .int .i64 x5_1 ∧ Aside0 (laws_markInt64S.l0 kq x0_1 x1_1 x5_1 = some (r1, r2)) ∧ Aside0 (kq ≤ k) ∧ Aside0 (Kd.R (Kd.int .i64) 2 w' w0.heap.size (fun k_ => (P0_ k_ ∨ w.heap.size ≤ k_)) u9000_ x0_1) ∧ Aside0 (Kept w w' (fun k_ => P0_ k_)) ∧ Aside0 (Below w0.heap.size w0 w'))
  case atStart => exact ⟨(l0), (a1), (0), (by first | rfl | (simp; done) | (simp [*]; done)), (by first | rfl | (simp; done) | (simp [*]; done)), H', ⟨Nat.le_refl _⟩, ⟨by (with_reducible repeat (first | apply Kd.R_alloc | apply Kd.R_drewN | apply Kd.R_drew)); exact HO0.out⟩, ⟨by repeat (first | (with_reducible first | exact HK.out | apply Kept.alloc | apply Kept.drewN | apply Kept.drew) | exact HK.out)⟩, ⟨by repeat (first | (with_reducible first | exact HB.out | apply below_alloc | apply pw_below_drewN | apply below_drew1) | exact HB.out)⟩⟩
  case round =>
    clear H'
    try clear p2
    obtain ⟨x0_1, x1_1, x5_1, rfl, rfl, HA, HK1, HO_0, HK, HB⟩ := hrel
    cases gk with
    | zero => exact absurd HA.out (by simp [laws_markInt64S.l0])
    | succ k1 =>
      have H := HA.out
      clear HA
      simp only [laws_markInt64S.l0] at H
      by_cases c3 : x5_1 < (x0_1.length : Int)
      · rw [if_pos c3] at H
        have c3b0 : decide (x5_1 < (x0_1.length : Int)) = true := decide_eq_true c3
        clear c3
        by_cases c4 : 0 ≤ x5_1
        · rw [if_pos c4] at H
          have c4b0 : decide (0 ≤ x5_1) = true := decide_eq_true c4
          clear c4
          obtain ⟨y412, hy412⟩ : ∃ y_ : List Int, y_ = (x0_1.set (x5_1 : Int).toNat x1_1) := ⟨_, rfl⟩
          replace H : (laws_markInt64S.l0 k1 y412 (wrap64 (x1_1 + 1)) (wrap64 (x5_1 + 1))) = some (r1, r2) := by first | (rw [hy412]; with_reducible exact H) | (have H2_ := (Option.bind_some _ _).symm.trans H; rw [hy412]; with_reducible exact H2_) | (have H2_ := (Option.bind_some _ _).symm.trans H; with_reducible exact H2_) | with_reducible exact H | (rw [hy412]; exact H) | exact H
          have Ny412 := Aside0.mk hy412
          clear hy412
          have H' := Aside0.mk H
          clear H
          obtain ⟨Ao6, co6, eo6⟩ := Kd.R_slice HO_0.out
          subst eo6
          have p5 : 0 ≤ (x5_1 : Int) := of_decide_eq_true (by first | (with_reducible assumption) | assumption)
          have q5 : (x5_1 : Int) < ((x0_1.length : Int) : Int) := of_decide_eq_true (by first | (with_reducible assumption) | assumption)
          obtain ⟨go5, co5, eo5, gb5, gl5, cl5, HG5⟩ := Kd.R_form HO_0.out (by omega)
          (first | cases eo5 | (injection eo5 with ea_ en_ ec_; (first | subst ea_ | (injection ea_ with ea_; subst ea_)); subst ec_; clear en_))
          have GB5 := Aside0.mk gb5
          have GG5 := Aside0.mk HG5
          clear gb5 gl5 HG5
          have HMgo5 := Aside0.mk (show (P0_ go5 ∨ w.heap.size ≤ go5) from (HO_0.out.1 _ rfl))
          obtain ⟨hx5_0, hf5_0⟩ := Kd.R_celln 0 HO_0.out (x5_1 : Int) p5 q5
          replace p5 := eq_true p5
          replace q5 := eq_true q5
          have HP7 := Kd.R_putg HO_0.out (x5_1 : Int) x1_1
          go_wp2_with (first | ((with_reducible refine gate_store (t := 2) (p := 15) rfl ?_); refine store_event (t := 2) (p := 15) (v := ?vo_w8) (w1 := (wr.setCell ⟨go5, (x5_1 : Int).toNat, none⟩ (.int .i64 x1_1))) ?hg ?ho ?hn ?hr ?_; (case ho => rfl); (case hg => rfl); (case hn => rfl); (case hr => first | (go_simp; done) | (go_simp; rfl)); intro w8 hw; have hg : wr.grownBy w8 (some go5) := (by rw [hw]; exact HP7.2); have hp_ : Kd.R (Kd.int .i64) 2 w8 w0.heap.size (fun k_ => (P0_ k_ ∨ w.heap.size ≤ k_)) (.slice (some ⟨go5, 0, none⟩) x0_1.length co6) y412 := (by rw [hw, Ny412.out]; exact HP7.1); clear HP7; have n0_ := Aside0.mk (hp_); have n1_ := Aside0.mk ((by rw [hw]; exact below_set (HB.out) GB5.out : Below w0.heap.size w0 w8)); have n2_ := Aside0.mk (Kept.of_grown (S := (fun k_ => P0_ k_)) hg (by repeat (first | (with_reducible first | exact HK.out | apply Kept.alloc | apply Kept.drewN | apply Kept.drew) | exact HK.out)) (fun k_ e_ => (HO_0.out.1 k_ e_))); clear HO_0; clear HB; clear HK; have HO_0 := n0_; have HB := n1_; have HK := n2_; clear n0_ n1_ n2_; clear hg hw hp_))
          go_roundg k1
          case measure => have := HK1.out; omega
          case rel => exact ⟨(y412), (wrap64 (x1_1 + 1)), (wrap64 (x5_1 + 1)), (by first | rfl | (simp; done) | (simp [*]; done)), (by first | rfl | (simp; done) | (simp [*]; done)), H', ⟨by have := HK1.out; omega⟩, ⟨by (with_reducible repeat (first | apply Kd.R_alloc | apply Kd.R_drewN | apply Kd.R_drew)); exact HO_0.out⟩, ⟨by repeat (first | (with_reducible first | exact HK.out | apply Kept.alloc | apply Kept.drewN | apply Kept.drew) | exact HK.out)⟩, ⟨by repeat (first | (with_reducible first | exact HB.out | apply below_alloc | apply pw_below_drewN | apply below_drew1) | exact HB.out)⟩⟩
        · rw [if_neg c4] at H
          exact absurd H (by simp)
      · rw [if_neg c3] at H
        have c3b0 : decide (x5_1 < (x0_1.length : Int)) = false := decide_eq_false c3
        clear c3
        simp only [Option.some.injEq, Prod.mk.injEq] at H
        obtain ⟨rfl, rfl⟩ := H
        obtain ⟨Ao9, co9, eo9⟩ := Kd.R_slice HO_0.out
        subst eo9
        go_wp2
        go_ret
        exact ⟨by first | rfl | (simp [errW_none, errW_some] <;> rfl) | (simp [*, errW_none, errW_some] <;> rfl), by (with_reducible repeat (first | apply Kd.R_alloc | apply Kd.R_drewN | apply Kd.R_drew)); exact HO_0.out, by repeat (first | (with_reducible first | exact HB.out | apply below_alloc | apply pw_below_drewN | apply below_drew1) | exact HB.out), by repeat (first | (with_reducible first | exact HK.out | apply Kept.alloc | apply Kept.drewN | apply Kept.drew) | exact HK.out)⟩
end Go.Proofs.Ytmheflciiodhdaa.P
-- Written by wip/tools/mkprint.py of this repo, over the kit's print, out of the translation; Lean checks it.
namespace Go.Proofs.Ytmheflciiodhdaa.P
open Go.RowKit Go.Proofs.YtmheflciiodhdaaW.PrintWords Go.Proofs.YtmheflciiodhdaaW.PrintLast Go.Proofs.YtmheflciiodhdaaW.PrintMore
attribute [local go_sem] max2_int min2_int max_two min_two max_three min_three max_four min_four   -- for this text's walks alone
set_option linter.unusedVariables false
set_option linter.unusedSimpArgs false
/-! ### laws_heldInt64S: function 32 -/
def laws_heldInt64S.l0 : Nat → List Int → Int → Int → Option (Int)
  | 0, _, _, _ => none
  | k + 1, x0, x1, x5 => if x5 < (x0.length : Int) then (if 0 ≤ x5 then (if (rd x0 x5) = x1 then (laws_heldInt64S.l0 k x0 (wrap64 (x1 + 1)) (wrap64 (x5 + 1))) else (some (-1))) else (none)) else (some x1)
def laws_heldInt64S.f (k : Nat) (l0 : List Int) (a1 : Int) : Option (Int) := laws_heldInt64S.l0 k l0 a1 0
theorem laws_heldInt64S.mono_l : ∀ k, (∀ y0 y1 y2, LeO (laws_heldInt64S.l0 k y0 y1 y2) (laws_heldInt64S.l0 (k + 1) y0 y1 y2))
  | 0 => fun _ _ _ r h => by simp [laws_heldInt64S.l0] at h
  | k + 1 => by
    have ih0 := laws_heldInt64S.mono_l k
    · intro y0 y1 y2
      unfold laws_heldInt64S.l0
      repeat' first
      | (with_reducible exact ih0 _ _ _)
      | (with_reducible exact LeO.refl _)
      | (with_reducible exact LeO.none _)
      | (with_reducible refine LeO.ite ?_ ?_)
      | (with_reducible refine LeO.bind ?_ (fun _ => ?_))
      | exact ih0 _ _ _
      | exact LeO.none _
      | refine LeO.ite ?_ ?_
      | refine LeO.bind ?_ (fun _ => ?_)
theorem laws_heldInt64S.mono : ∀ a0 a1 k, LeO (laws_heldInt64S.f k a0 a1) (laws_heldInt64S.f (k + 1) a0 a1) := by
  intro a0 a1 k
  have ih0 := laws_heldInt64S.mono_l k
  unfold laws_heldInt64S.f
  repeat' first
      | (with_reducible exact ih0 _ _ _)
      | (with_reducible exact LeO.refl _)
      | (with_reducible exact LeO.none _)
      | (with_reducible refine LeO.ite ?_ ?_)
      | (with_reducible refine LeO.bind ?_ (fun _ => ?_))
      | exact ih0 _ _ _
      | exact LeO.none _
      | refine LeO.ite ?_ ?_
      | refine LeO.bind ?_ (fun _ => ?_)
set_option maxHeartbeats 8000000 in
set_option maxRecDepth 100000 in
theorem laws_heldInt64S.calls (k : Nat) (A0 : Option Addr) (c0 : Nat) (l0 : List Int) (a1 : Int) (r : Int) (w : World) (hr0 : Kd.C (Kd.int .i64) w A0 l0.length l0) (hc0 : l0.length ≤ c0) (h : laws_heldInt64S.f k l0 a1 = some r) :
    Calls Try.prog 32 #[.slice A0 l0.length c0, .int .i64 a1] w fun e w' => e = .returned (.int .i64 r) ∧ Drawn0 w w' := by
  have HR0 := Aside0.mk hr0
  have HC0 := Aside0.mk hc0
  clear hr0 hc0
  have H : (laws_heldInt64S.l0 k l0 a1 0) = some r := h
  clear h
  have H' := Aside0.mk H
  clear H
  go_enter Try.func32, Try.ntmps32
  go_wp2
  go_loopg [1, 5] k (fun kq v1 v5 w' => ∃ (x1_1 : Int) (x5_1 : Int), v1 = .int .i64 x1_1 ∧ v5 = .int .i64 x5_1 ∧ Aside0 (laws_heldInt64S.l0 kq l0 x1_1 x5_1 = some r) ∧ Aside0 (kq ≤ k) ∧ Drawn0 w w')
  case atStart => exact ⟨(a1), (0), (by first | rfl | (simp; done) | (simp [*]; done)), (by first | rfl | (simp; done) | (simp [*]; done)), H', ⟨Nat.le_refl _⟩, by repeat (first | exact Drawn0.refl _ | apply Drawn0.step)⟩
  case round =>
    clear H'
    try clear p2
    obtain ⟨x1_1, x5_1, rfl, rfl, HA, HK1, ⟨m1, rfl⟩⟩ := hrel
    cases gk with
    | zero => exact absurd HA.out (by simp [laws_heldInt64S.l0])
    | succ k1 =>
      have H := HA.out
      clear HA
      simp only [laws_heldInt64S.l0] at H
      by_cases c3 : x5_1 < (l0.length : Int)
      · rw [if_pos c3] at H
        have c3b0 : decide (x5_1 < (l0.length : Int)) = true := decide_eq_true c3
        clear c3
        by_cases c4 : 0 ≤ x5_1
        · rw [if_pos c4] at H
          have c4b0 : decide (0 ≤ x5_1) = true := decide_eq_true c4
          clear c4
          by_cases c5 : (rd l0 x5_1) = x1_1
          · rw [if_pos c5] at H
            have c5b0 : ((rd l0 x5_1) == x1_1) = true := beq_iff_eq.mpr c5
            have c5b1 : ((rd l0 x5_1) != x1_1) = false := bne_eq_false_iff_eq.mpr c5
            clear c5
            have H' := Aside0.mk H
            clear H
            have p413 : 0 ≤ (x5_1 : Int) := of_decide_eq_true (by first | (with_reducible assumption) | assumption)
            have q413 : x5_1 < (l0.length : Int) := of_decide_eq_true (by first | (with_reducible assumption) | assumption)
            obtain ⟨ad413, e413, hx413_0⟩ := Kd.at_int HR0.out x5_1 p413 q413
            cases e413
            replace p413 := eq_true p413
            replace q413 := eq_true q413
            go_wp2
            go_roundg k1
            case measure => have := HK1.out; omega
            case rel => exact ⟨(wrap64 (x1_1 + 1)), (wrap64 (x5_1 + 1)), (by first | rfl | (simp; done) | (simp [*]; done)), (by first | rfl | (simp; done) | (simp [*]; done)), H', ⟨by have := HK1.out; omega⟩, by repeat (first | exact Drawn0.refl _ | apply Drawn0.step)⟩
          · rw [if_neg c5] at H
            have c5b0 : ((rd l0 x5_1) == x1_1) = false := beq_eq_false_iff_ne.mpr c5
            have c5b1 : ((rd l0 x5_1) != x1_1) = true := bne_iff_ne.mpr c5
            obtain rfl := Option.some.inj H
            have p413 : 0 ≤ (x5_1 : Int) := of_decide_eq_true (by first | (with_reducible assumption) | assumption)
            have q413 : x5_1 < (l0.length : Int) := of_decide_eq_true (by first | (with_reducible assumption) | assumption)
            obtain ⟨ad413, e413, hx413_0⟩ := Kd.at_int HR0.out x5_1 p413 q413
            cases e413
            replace p413 := eq_true p413
            replace q413 := eq_true q413
            go_wp2
            go_ret
            exact ⟨by first | rfl | (simp; done) | (simp [*]; done), by repeat (first | exact Drawn0.refl _ | apply Drawn0.step)⟩
        · rw [if_neg c4] at H
          exact absurd H (by simp)
      · rw [if_neg c3] at H
        have c3b0 : decide (x5_1 < (l0.length : Int)) = false := decide_eq_false c3
        clear c3
        obtain rfl := Option.some.inj H
        go_wp2
        go_ret
        exact ⟨by first | rfl | (simp; done) | (simp [*]; done), by repeat (first | exact Drawn0.refl _ | apply Drawn0.step)⟩
end Go.Proofs.Ytmheflciiodhdaa.P
/- What the helpers of the exact laws of the turning chapter tell: copies are copies, equal lists are equal, marks count up. -/
namespace Go.Proofs.Ytmheflciiodhdaa.P
open Go.RowKit Go.Proofs.YtmheflciiodhdaaW.PrintWords Go.Proofs.YtmheflciiodhdaaW.PrintLast Go.Proofs.YtmheflciiodhdaaW.PrintMore
theorem toRow_ev (xs : List Int) (hn : xs.length ≤ 1048576) : Ev (fun k => laws_toRow.f k xs) xs := by
  have key := Ev.loop (fun k (s : List Int) i => laws_toRow.l0 k xs s i) xs.length (fun i s => s.length = xs.length ∧ s.take i = xs.take i) xs ?_ ?_ xs.length 0 (List.replicate xs.length 0) (by omega) (by simp)
  · refine Ev.congr (fun k => ?_) key
    unfold laws_toRow.f
    rw [if_pos (by omega), if_pos (by simp; omega)]; simp
  · intro i s hi ⟨hl, ht⟩
    refine ⟨s.set i (rd xs i), ⟨by simpa using hl, set_rd_take hi hl ht⟩, fun h => Ev.step (fun k => ?_) h⟩
    simp only [laws_toRow.l0]
    rw [if_pos (by omega), if_pos (by omega), if_pos (by omega), w64 (by omega) (by omega)]; simp
  · intro s ⟨hl, ht⟩
    obtain rfl := eq_of_take hl ht
    exact Ev.one (fun k => by simp only [laws_toRow.l0]; rw [if_neg (by omega)])
def convW (x : S94) : S38 := ⟨x.f0, x.f1, x.f2, x.f3, x.f4, x.f5⟩
theorem toWalkerS_ev (xs : List S94) (hn : xs.length ≤ 1048576) : Ev (fun k => laws_toWalkerS.f k xs) (xs.map convW) := by
  have key := Ev.loop (fun k (s : List S38) i => laws_toWalkerS.l0 k xs s i) xs.length (fun i s => s.length = xs.length ∧ s.take i = (xs.map convW).take i) (xs.map convW) ?_ ?_ xs.length 0 (List.replicate xs.length z38) (by omega) (by simp)
  · refine Ev.congr (fun k => ?_) key
    unfold laws_toWalkerS.f
    rw [if_pos (by omega), if_pos (by simp; omega)]; simp
  · intro i s hi ⟨hl, ht⟩
    refine ⟨s.set i (convW (rd_T94 xs i)), ⟨by simpa using hl, ?_⟩, fun h => Ev.step (fun k => ?_) h⟩
    · rw [List.take_succ_eq_append_getElem (by simpa [hl] using hi), List.take_succ_eq_append_getElem (by simpa using hi), List.take_set_of_le (by omega), ht]
      simp [rd_T94, hi]
    · simp only [laws_toWalkerS.l0, laws_toWalker.f]
      rw [if_pos (by omega), if_pos (by omega)]
      simp only [Option.bind_some]
      rw [if_pos (by omega), w64 (by omega) (by omega)]; simp [convW]
  · intro s ⟨hl, ht⟩
    obtain rfl := eq_of_take (b := xs.map convW) (by simpa using hl) (by simpa using ht)
    exact Ev.one (fun k => by simp only [laws_toWalkerS.l0]; rw [if_neg (by omega)])
theorem eqInt64S_ev (xs : List Int) (hn : xs.length ≤ 1048576) : Ev (fun k => laws_eqInt64S.f k xs xs) true := by
  have key := Ev.loop (fun k (_ : Unit) i => laws_eqInt64S.l0 k xs xs i) xs.length (fun _ _ => True) true ?_ ?_ xs.length 0 () (by omega) trivial
  · refine Ev.congr (fun k => ?_) key
    unfold laws_eqInt64S.f
    rw [if_pos rfl]; simp
  · intro i s hi _
    refine ⟨(), trivial, fun h => Ev.step (fun k => ?_) h⟩
    simp only [laws_eqInt64S.l0]
    rw [if_pos (by omega), if_pos (by omega), if_pos (by omega), if_pos trivial, w64 (by omega) (by omega)]
  · exact fun _ _ => Ev.one (fun k => by simp only [laws_eqInt64S.l0]; rw [if_neg (by omega)])
theorem eqRow_ev (xs : List Int) (hn : xs.length ≤ 1048576) : Ev (fun k => laws_eqRow.f k xs xs) true := by
  have key := Ev.loop (fun k (_ : Unit) i => laws_eqRow.l0 k xs xs i) xs.length (fun _ _ => True) true ?_ ?_ xs.length 0 () (by omega) trivial
  · refine Ev.congr (fun k => ?_) key
    unfold laws_eqRow.f
    rw [if_pos rfl]; simp
  · intro i s hi _
    refine ⟨(), trivial, fun h => Ev.step (fun k => ?_) h⟩
    simp only [laws_eqRow.l0]
    rw [if_pos (by omega), if_pos (by omega), if_pos (by omega), if_pos trivial, w64 (by omega) (by omega)]
  · exact fun _ _ => Ev.one (fun k => by simp only [laws_eqRow.l0]; rw [if_neg (by omega)])
theorem eqWalkerS_ev (xs : List S38) (hn : xs.length ≤ 1048576) : Ev (fun k => laws_eqWalkerS.f k xs xs) true := by
  have key := Ev.loop (fun k (_ : Unit) i => laws_eqWalkerS.l0 k xs xs i) xs.length (fun _ _ => True) true ?_ ?_ xs.length 0 () (by omega) trivial
  · refine Ev.congr (fun k => ?_) key
    unfold laws_eqWalkerS.f
    rw [if_pos rfl]; simp
  · intro i s hi _
    refine ⟨(), trivial, fun h => Ev.step (fun k => ?_) h⟩
    simp only [laws_eqWalkerS.l0, laws_eqWalker.f]
    rw [if_pos (by omega), if_pos (by omega), if_pos (by omega), w64 (by omega) (by omega)]
    simp
  · exact fun _ _ => Ev.one (fun k => by simp only [laws_eqWalkerS.l0]; rw [if_neg (by omega)])
theorem markRow_ev (xs : List Int) (a : Int) (ha : 0 ≤ a) (ha1 : a ≤ 100000000) (hn : xs.length ≤ 1048576) : ∃ ys, Ev (fun k => laws_markRow.f k xs a) (a + xs.length, ys) := by
  have key : ∀ (d i : Nat) (s : List Int) (a : Int), i + d = xs.length → s.length = xs.length → 0 ≤ a → a + d ≤ 200000000 → ∃ ys, Ev (fun k => laws_markRow.l0 k s a i) (a + d, ys) := by
    intro d
    induction d with
    | zero =>
      intro i s a hd hl h0 h1
      exact ⟨s, Ev.one (fun k => by simp only [laws_markRow.l0]; rw [if_neg (by omega)]; simp)⟩
    | succ d ih =>
      intro i s a hd hl h0 h1
      obtain ⟨ys, h⟩ := ih (i + 1) (s.set i (a % 256)) (a + 1) (by omega) (by simpa using hl) (by omega) (by omega)
      refine ⟨ys, Ev.step (fun k => ?_) (by rw [show a + ((d + 1 : Nat) : Int) = a + 1 + d by omega]; exact h)⟩
      simp only [laws_markRow.l0]
      rw [if_pos (by omega), if_pos (by omega), w64 (by omega) (by omega), w64 (by omega) (by omega)]; simp
  exact key xs.length 0 xs a (by omega) rfl ha (by omega)
def mkW (s : List S38) (a : Int) (i : Int) : List S38 :=
  let y1 := s.set i.toNat ⟨IntKind.i16.wrap a, (rd_T38 s i).f1, (rd_T38 s i).f2, (rd_T38 s i).f3, (rd_T38 s i).f4, (rd_T38 s i).f5⟩
  let y2 := y1.set i.toNat ⟨(rd_T38 y1 i).f0, IntKind.i16.wrap (a + 1), (rd_T38 y1 i).f2, (rd_T38 y1 i).f3, (rd_T38 y1 i).f4, (rd_T38 y1 i).f5⟩
  let y3 := y2.set i.toNat ⟨(rd_T38 y2 i).f0, (rd_T38 y2 i).f1, IntKind.i16.wrap (a + 2), (rd_T38 y2 i).f3, (rd_T38 y2 i).f4, (rd_T38 y2 i).f5⟩
  let y4 := y3.set i.toNat ⟨(rd_T38 y3 i).f0, (rd_T38 y3 i).f1, (rd_T38 y3 i).f2, IntKind.i16.wrap (a + 3), (rd_T38 y3 i).f4, (rd_T38 y3 i).f5⟩
  let y5 := y4.set i.toNat ⟨(rd_T38 y4 i).f0, (rd_T38 y4 i).f1, (rd_T38 y4 i).f2, (rd_T38 y4 i).f3, IntKind.i16.wrap (a + 4), (rd_T38 y4 i).f5⟩
  y5.set i.toNat ⟨(rd_T38 y5 i).f0, (rd_T38 y5 i).f1, (rd_T38 y5 i).f2, (rd_T38 y5 i).f3, (rd_T38 y5 i).f4, IntKind.i8.wrap (a + 5)⟩
theorem mkW_len (s : List S38) (a : Int) (i : Int) : (mkW s a i).length = s.length := by simp [mkW]
theorem markWalkerS_ev (xs : List S38) (a : Int) (ha : 0 ≤ a) (ha1 : a ≤ 100000000) (hn : xs.length ≤ 1048576) : ∃ ys, Ev (fun k => laws_markWalkerS.f k xs a) (a + 6 * xs.length, ys) := by
  have key : ∀ (d i : Nat) (s : List S38) (a : Int), i + d = xs.length → s.length = xs.length → 0 ≤ a → a + 6 * d ≤ 200000000 → ∃ ys, Ev (fun k => laws_markWalkerS.l0 k s a i) (a + 6 * d, ys) := by
    intro d
    induction d with
    | zero =>
      intro i s a hd hl h0 h1
      exact ⟨s, Ev.one (fun k => by simp only [laws_markWalkerS.l0]; rw [if_neg (by omega)]; simp)⟩
    | succ d ih =>
      intro i s a hd hl h0 h1
      have c1 : (i : Int) < (s.length : Int) := by omega
      have c2 : (0 : Int) ≤ (i : Int) := by omega
      have H := fun s' (hs' : s'.length = xs.length) => ih (i + 1) s' (a + 6) (by omega) hs' (by omega) (by omega)
      have e1 : wrap64 (a + 1) = a + 1 := w64 (by omega) (by omega)
      have e2 : wrap64 (a + 1 + 1) = a + 2 := by rw [w64 (by omega) (by omega)]; omega
      have e3 : wrap64 (a + 2 + 1) = a + 3 := by rw [w64 (by omega) (by omega)]; omega
      have e4 : wrap64 (a + 3 + 1) = a + 4 := by rw [w64 (by omega) (by omega)]; omega
      have e5 : wrap64 (a + 4 + 1) = a + 5 := by rw [w64 (by omega) (by omega)]; omega
      have e6 : wrap64 (a + 5 + 1) = a + 6 := by rw [w64 (by omega) (by omega)]; omega
      have e7 : wrap64 ((i : Int) + 1) = (i : Int) + 1 := w64 (by omega) (by omega)
      obtain ⟨ys, hy⟩ := H (mkW s a i) (by rw [mkW_len]; exact hl)
      clear H ih
      refine ⟨ys, Ev.step (f := fun k => laws_markWalkerS.l0 k (mkW s a i) (a + 6) ((i : Int) + 1)) (fun k => ?_) ?_⟩
      · simp only [laws_markWalkerS.l0, Option.bind_some]
        rw [if_pos c1, if_pos c2, e1, e2, e3, e4, e5, e6, e7]
        rfl
      · rw [show a + 6 * ((d + 1 : Nat) : Int) = a + 6 + 6 * d by omega]
        simpa using hy
  exact key xs.length 0 xs a (by omega) rfl ha (by omega)
def upFrom (a : Int) : Nat → List Int
  | 0 => []
  | n + 1 => a :: upFrom (a + 1) n
theorem upFrom_len : ∀ (n : Nat) (a : Int), (upFrom a n).length = n
  | 0, _ => rfl
  | n + 1, a => by simp [upFrom, upFrom_len n]
theorem rd_upFrom : ∀ (n : Nat) (a : Int) (i : Nat), i < n → rd (upFrom a n) i = a + i
  | n + 1, a, 0, _ => by simp [upFrom, rd]
  | n + 1, a, i + 1, h => by
    have := rd_upFrom n (a + 1) i (by omega)
    simp [rd, upFrom] at this ⊢
    rw [this]; omega
theorem markInt64S_ev (xs : List Int) (hn : xs.length ≤ 1048576) : Ev (fun k => laws_markInt64S.f k xs 1) (1 + (xs.length : Int), upFrom 1 xs.length) := by
  have key := Ev.loop (fun k (s : List Int × Int) i => laws_markInt64S.l0 k s.1 s.2 i) xs.length (fun i s => s.1.length = xs.length ∧ s.2 = 1 + i ∧ s.1.take i = (upFrom 1 xs.length).take i) (1 + (xs.length : Int), upFrom 1 xs.length) ?_ ?_ xs.length 0 (xs, 1) (by omega) (by simp)
  · exact Ev.congr (fun k => by simp [laws_markInt64S.f]) key
  · rintro i ⟨s, a⟩ hi ⟨hl, ha, ht⟩
    simp only at hl ha ht
    refine ⟨(s.set i a, 1 + ((i + 1 : Nat) : Int)), ⟨by simpa using hl, rfl, ?_⟩, fun h => Ev.step (fun k => ?_) h⟩
    · have := set_rd_take (xs := upFrom 1 xs.length) (acc := s) (i := i) (by rw [upFrom_len]; exact hi) (by rw [upFrom_len]; exact hl) ht
      rw [rd_upFrom _ _ _ hi, ← ha] at this
      exact this
    · simp only [laws_markInt64S.l0]
      rw [if_pos (by omega), if_pos (by omega), w64 (by omega) (by omega), w64 (by omega) (by omega), show a + 1 = 1 + ((i + 1 : Nat) : Int) by omega]; simp
  · rintro ⟨s, a⟩ ⟨hl, ha, ht⟩
    simp only at hl ha ht
    obtain rfl := eq_of_take (a := s) (b := upFrom 1 xs.length) (by rw [upFrom_len]; exact hl) (by rw [upFrom_len]; exact ht)
    exact Ev.one (fun k => by simp only [laws_markInt64S.l0]; rw [if_neg (by rw [upFrom_len]; omega), ha])
theorem heldInt64S_ev (n : Nat) (hn : n ≤ 1048576) : Ev (fun k => laws_heldInt64S.f k (upFrom 1 n) 1) (1 + (n : Int)) := by
  have key := Ev.loop (fun k (a : Int) i => laws_heldInt64S.l0 k (upFrom 1 n) a i) n (fun i a => a = 1 + i) (1 + (n : Int)) ?_ ?_ n 0 1 (by omega) (by simp)
  · exact Ev.congr (fun k => by simp [laws_heldInt64S.f]) key
  · rintro i a hi rfl
    refine ⟨_, rfl, fun h => Ev.step (fun k => ?_) h⟩
    simp only [laws_heldInt64S.l0]
    rw [if_pos (by rw [upFrom_len]; omega), if_pos (by omega), if_pos (by rw [rd_upFrom _ _ _ hi]), w64 (by omega) (by omega), w64 (by omega) (by omega), show 1 + (i : Int) + 1 = 1 + ((i + 1 : Nat) : Int) by omega]
  · rintro a rfl
    exact Ev.one (fun k => by simp only [laws_heldInt64S.l0]; rw [if_neg (by rw [upFrom_len]; omega)])
theorem szWalkerS_some (l : List S94) (hl : l.length ≤ 9223372036854775807) (b : Int) (h : laws_szWalkerS.f l 1048576 = some b) (hb : ¬ b < 0) : l.length ≤ 1048576 := by
  unfold laws_szWalkerS.f at h
  rw [w64 (by omega) (by omega)] at h
  by_cases hh : 1048576 - (l.length : Int) < 0
  · rw [if_pos hh] at h
    obtain rfl := Option.some.inj h
    omega
  · omega
theorem szWalkerS_ex (l : List S94) : ∃ b, laws_szWalkerS.f l 1048576 = some b := by
  unfold laws_szWalkerS.f
  split <;> exact ⟨_, rfl⟩
end Go.Proofs.Ytmheflciiodhdaa.P
/- Rows and walkers in plain words: who stands where how often, and what a row is after walks. -/
namespace Go.Proofs.Ytmheflciiodhdaa.P
open Go.RowKit Go.Proofs.YtmheflciiodhdaaW.PrintWords Go.Proofs.YtmheflciiodhdaaW.PrintLast Go.Proofs.YtmheflciiodhdaaW.PrintMore
/-- A walker whose numbers are in bounds, for a row of b bottles. -/
structure WOk (b : Int) (x : S38) : Prop where
  h0 : 0 ≤ x.f0 ∧ x.f0 ≤ 10000
  h1 : 1 ≤ x.f1 ∧ x.f1 ≤ 100
  h2 : 0 ≤ x.f2 ∧ x.f2 ≤ b - 1
  h3 : 0 ≤ x.f3 ∧ x.f3 ≤ 60
  h4 : 1 ≤ x.f4 ∧ x.f4 ≤ 60
  h5 : -7 ≤ x.f5 ∧ x.f5 ≤ 7
theorem rd_getElem {xs : List Int} {i : Nat} (h : i < xs.length) : rd xs (i : Int) = xs[i] := rd_lt h
theorem ext_rd {a b : List Int} (hl : a.length = b.length) (h : ∀ i : Nat, i < a.length → rd a i = rd b i) : a = b := by
  refine List.ext_getElem hl (fun i h1 h2 => ?_)
  have := h i h1
  rwa [rd_lt h1, rd_lt h2] at this
theorem rd_zipWith {g : Int → Int → Int} {xs ys : List Int} {i : Nat} (h1 : i < xs.length) (h2 : i < ys.length) : rd (List.zipWith g xs ys) i = g (rd xs i) (rd ys i) := by
  rw [rd_lt (by simp; omega), rd_lt h1, rd_lt h2]; simp
theorem rd_mem {p : Int → Prop} {xs : List Int} (h : ∀ y ∈ xs, p y) (h0 : p 0) (i : Int) : p (rd xs i) := by
  simp only [rd, List.getD_eq_getElem?_getD]
  cases e : xs[i.toNat]? with
  | none => exact h0
  | some y => exact h y (List.mem_of_getElem? e)
def visN (b st sp : Int) : Nat → List Int
  | 0 => List.replicate b.toNat 0
  | j + 1 => (visN b st sp j).set ((st + j * sp) % b).toNat (rd (visN b st sp j) ((st + j * sp) % b) + 1)
def vis (b : Int) (x : S38) : List Int := visN b x.f2 x.f3 x.f4.toNat
theorem visN_len (b st sp : Int) : ∀ j, (visN b st sp j).length = b.toNat
  | 0 => by simp [visN]
  | j + 1 => by simp [visN, visN_len b st sp j]
theorem visN_bound (b st sp : Int) : ∀ (j : Nat) (y : Int), y ∈ visN b st sp j → 0 ≤ y ∧ y ≤ j
  | 0, y, h => by simp [visN] at h; omega
  | j + 1, y, h => by
    have ih := visN_bound b st sp j
    rcases List.mem_or_eq_of_mem_set h with h | h
    · have := ih y h; omega
    · have := rd_mem (p := fun y => 0 ≤ y ∧ y ≤ j) ih (by omega) ((st + j * sp) % b)
      omega
theorem visN_rd (b st sp : Int) (j : Nat) (i : Int) : 0 ≤ rd (visN b st sp j) i ∧ rd (visN b st sp j) i ≤ j :=
  rd_mem (p := fun y => 0 ≤ y ∧ y ≤ j) (visN_bound b st sp j) (by omega) i
theorem vis_len (b : Int) (x : S38) : (vis b x).length = b.toNat := visN_len _ _ _ _
theorem vis_rd {b : Int} {x : S38} (hx : WOk b x) (i : Int) : 0 ≤ rd (vis b x) i ∧ rd (vis b x) i ≤ 60 := by
  have := visN_rd b x.f2 x.f3 x.f4.toNat i
  have := hx.h4
  unfold vis
  omega
theorem at_step {st sp b : Int} (j : Nat) : ((st + j * sp) % b + sp) % b = (st + ((j + 1 : Nat) : Int) * sp) % b := by
  rw [Int.emod_add_emod]
  congr 1
  push_cast
  rw [Int.add_mul, Int.one_mul]; omega
theorem tmod_nn {a b : Int} (h : 0 ≤ a) : Int.tmod a b = a % b := Int.tmod_eq_emod_of_nonneg h
theorem w16 {x : Int} (h0 : -32768 ≤ x) (h1 : x ≤ 32767) : IntKind.i16.wrap x = x := by
  simp [IntKind.wrap, IntKind.signed, IntKind.bits]
  omega
theorem specVisits_ev {b : Int} {x : S38} (hb : 1 ≤ b) (hb1 : b ≤ 60) (hx : WOk b x) : Ev (fun k => spec_l05Visits.f k b x.f0 x.f1 x.f2 x.f3 x.f4 x.f5) (vis b x) := by
  obtain ⟨⟨a0, b0⟩, ⟨a1, b1⟩, ⟨a2, b2⟩, ⟨a3, b3⟩, ⟨a4, b4⟩, ⟨a5, b5⟩⟩ := hx
  have key := Ev.loop (fun k (s : List Int × Int) i => spec_l05Visits.l0 k b s.1 s.2 i x.f0 x.f1 x.f2 x.f3 x.f4 x.f5) x.f4.toNat
    (fun i s => s = (visN b x.f2 x.f3 i, (x.f2 + i * x.f3) % b)) (vis b x) ?_ ?_ x.f4.toNat 0 (List.replicate b.toNat 0, x.f2) (by omega)
    (by simp [visN]; exact (Int.emod_eq_of_lt (by omega) (by omega)).symm)
  · refine Ev.congr (fun k => ?_) key
    unfold spec_l05Visits.f
    rw [if_pos (by omega), if_pos (by omega), w64 (by omega) (by omega)]; rfl
  · rintro i s hi rfl
    have m0 := Int.emod_nonneg (x.f2 + i * x.f3) (show b ≠ 0 by omega)
    have m1 := Int.emod_lt_of_pos (x.f2 + i * x.f3) (show 0 < b by omega)
    have hv := visN_rd b x.f2 x.f3 i ((x.f2 + i * x.f3) % b)
    have hl := visN_len b x.f2 x.f3 i
    refine ⟨_, rfl, fun h => Ev.step (fun k => ?_) h⟩
    simp only [spec_l05Visits.l0]
    rw [← at_step]
    simp only [visN]
    generalize hz : (x.f2 + i * x.f3) % b = z at *
    rw [if_pos (by omega), if_pos (by omega), if_pos (by omega), if_neg (by omega), w64 (by omega) (by omega), w64 (x := x.f3) (by omega) (by omega), w64 (x := z + x.f3) (by omega) (by omega), w16 (by omega) (by omega), tmod_nn (by omega)]
  · rintro s rfl
    exact Ev.one (fun k => by simp only [spec_l05Visits.l0]; rw [if_neg (by omega)]; rfl)
theorem implVisits_ev {b : Int} {x : S38} (hb : 1 ≤ b) (hb1 : b ≤ 60) (hx : WOk b x) : Ev (fun k => impl_Walker_visits.f k x.f0 x.f1 x.f2 x.f3 x.f4 x.f5 b) (vis b x) := by
  obtain ⟨⟨a0, b0⟩, ⟨a1, b1⟩, ⟨a2, b2⟩, ⟨a3, b3⟩, ⟨a4, b4⟩, ⟨a5, b5⟩⟩ := hx
  have key := Ev.loop (fun k (s : List Int) i => impl_Walker_visits.l0 k b s x.f4 i x.f0 x.f1 x.f2 x.f3 x.f4 x.f5) x.f4.toNat
    (fun i s => s = visN b x.f2 x.f3 i) (vis b x) ?_ ?_ x.f4.toNat 0 (List.replicate b.toNat 0) (by omega) rfl
  · refine Ev.congr (fun k => ?_) key
    unfold impl_Walker_visits.f
    rw [if_pos (by omega), if_pos (by omega), w64 (by omega) (by omega)]; rfl
  · rintro i s hi rfl
    have hm : 0 ≤ (i : Int) * x.f3 ∧ (i : Int) * x.f3 ≤ 60 * 60 := by
      refine ⟨Int.mul_nonneg (by omega) (by omega), ?_⟩
      exact Int.mul_le_mul (by omega) (by omega) (by omega) (by omega)
    have m0 := Int.emod_nonneg (x.f2 + i * x.f3) (show b ≠ 0 by omega)
    have m1 := Int.emod_lt_of_pos (x.f2 + i * x.f3) (show 0 < b by omega)
    have hv := visN_rd b x.f2 x.f3 i ((x.f2 + i * x.f3) % b)
    have hl := visN_len b x.f2 x.f3 i
    refine ⟨_, rfl, fun h => Ev.step (fun k => ?_) h⟩
    simp only [impl_Walker_visits.l0]
    rw [w64 (x := x.f3) (by omega) (by omega), w64 (x := x.f2) (by omega) (by omega), w64 (x := (i : Int) * x.f3) (by omega) (by omega), w64 (x := x.f2 + (i : Int) * x.f3) (by omega) (by omega), tmod_nn (by omega)]
    simp only [visN]
    generalize hz : (x.f2 + i * x.f3) % b = z at *
    rw [if_pos (by omega), if_neg (by omega), if_pos (by omega), if_pos (by omega), w64 (by omega) (by omega), w64 (by omega) (by omega)]
  · rintro s rfl
    exact Ev.one (fun k => by simp only [impl_Walker_visits.l0]; rw [if_neg (by omega)]; rfl)
theorem tmod8 (a : Int) : ∃ q, Int.tmod a 8 = a - 8 * q ∧ -7 ≤ Int.tmod a 8 ∧ Int.tmod a 8 ≤ 7 := by
  refine ⟨Int.tdiv a 8, ?_, ?_, ?_⟩
  · have := Int.tmod_add_mul_tdiv a 8; omega
  · have h1 := Int.tmod_lt_of_pos (-a) (show (0 : Int) < 8 by omega)
    rw [Int.neg_tmod] at h1; omega
  · have := Int.tmod_lt_of_pos a (show (0 : Int) < 8 by omega); omega
theorem eighth_eq (z : Int) : eighth z = z % 8 := by
  obtain ⟨q, hq, h0, h1⟩ := tmod8 z
  unfold eighth
  rw [w64 (by omega) (by omega), tmod_nn (by omega)]
  omega
theorem mul_bd {a b : Int} {A B : Nat} (ha : a.natAbs ≤ A) (hb : b.natAbs ≤ B) : (a * b).natAbs ≤ A * B := by
  rw [Int.natAbs_mul]; exact Nat.mul_le_mul ha hb
/-- One walker's walk, bottle by bottle. -/
theorem turnAt_eq {walks turn v x : Int} (hx : 0 ≤ x ∧ x ≤ 255) (hv : 0 ≤ v ∧ v ≤ 60) (ht : -7 ≤ turn ∧ turn ≤ 7) : turnAt walks turn v x = (x + walks * v * turn) % 8 := by
  obtain ⟨q, hq, h0, h1⟩ := tmod8 walks
  have m1 : (Int.tmod walks 8 * v).natAbs ≤ 7 * 60 := mul_bd (by omega) (by omega)
  have m2 : (Int.tmod walks 8 * v * turn).natAbs ≤ 7 * 60 * 7 := mul_bd m1 (by omega)
  have e : walks * v * turn = Int.tmod walks 8 * v * turn + 8 * (q * v * turn) := by
    rw [hq, Int.sub_mul, Int.sub_mul, Int.mul_assoc 8 q v, Int.mul_assoc 8 (q * v) turn]; omega
  unfold turnAt
  rw [w64 (x := x) (by omega) (by omega), w64 (x := turn) (by omega) (by omega), w64 (x := Int.tmod walks 8 * v) (by omega) (by omega), w64 (x := Int.tmod walks 8 * v * turn) (by omega) (by omega), w64 (x := x + Int.tmod walks 8 * v * turn) (by omega) (by omega)]
  have := eighth_eq (x + Int.tmod walks 8 * v * turn)
  unfold eighth at this
  rw [this, e]; omega
/-- What walks add to a bottle's turn. -/
def sumAt (b : Int) (f : S38 → Int) (i : Nat) : List S38 → Int
  | [] => 0
  | x :: r => f x * rd (vis b x) i * x.f5 + sumAt b f i r
def rowBy (f : S38 → Int) (ws : List S38) (r : List Int) : List Int := (List.range r.length).map fun (i : Nat) => (rd r (i : Int) + sumAt r.length f i ws) % 8
theorem rowBy_len (f : S38 → Int) (ws : List S38) (r : List Int) : (rowBy f ws r).length = r.length := by simp [rowBy]
theorem rowBy_rd {f : S38 → Int} {ws : List S38} {r : List Int} {i : Nat} (h : i < r.length) : rd (rowBy f ws r) i = (rd r i + sumAt r.length f i ws) % 8 := by
  rw [rd_lt (by rw [rowBy_len]; exact h)]; simp [rowBy]
theorem sumAt_add (b : Int) (f g h : S38 → Int) (i : Nat) : ∀ (ws : List S38), (∀ x ∈ ws, h x = f x + g x) → sumAt b h i ws = sumAt b f i ws + sumAt b g i ws
  | [], _ => rfl
  | x :: r, hx => by
    rw [sumAt, sumAt, sumAt, sumAt_add b f g h i r (fun y hy => hx y (List.mem_cons_of_mem _ hy)), hx x (List.mem_cons_self), Int.add_mul, Int.add_mul]; omega
theorem rowBy_rowBy (f g h : S38 → Int) (ws : List S38) (r : List Int) (hx : ∀ x ∈ ws, h x = f x + g x) : rowBy g ws (rowBy f ws r) = rowBy h ws r := by
  refine ext_rd (by simp [rowBy_len]) (fun i hi => ?_)
  rw [rowBy_len, rowBy_len] at hi
  rw [rowBy_rd (by rw [rowBy_len]; exact hi), rowBy_rd hi, rowBy_rd hi, rowBy_len, sumAt_add _ f g h i ws hx]
  omega
theorem rowBy_cong (f g : S38 → Int) (ws : List S38) (r : List Int) (hx : ∀ x ∈ ws, f x = g x) : rowBy f ws r = rowBy g ws r := by
  have e : ∀ i, sumAt r.length f i ws = sumAt r.length g i ws := fun i => by
    have := sumAt_add r.length g (fun _ => 0) f i ws (fun x h => by rw [hx x h]; omega)
    have z := sumAt_add r.length (fun _ => 0) (fun _ => 0) (fun _ => 0) i ws (fun _ _ => rfl)
    omega
  unfold rowBy
  simp only [e]
theorem rowBy_bd (f : S38 → Int) (ws : List S38) (r : List Int) : ∀ x ∈ rowBy f ws r, 0 ≤ x ∧ x ≤ 7 := by
  intro x hx
  obtain ⟨i, -, rfl⟩ := List.mem_map.mp hx
  omega
theorem rowBy_nil (f : S38 → Int) (r : List Int) (h : ∀ x ∈ r, 0 ≤ x ∧ x ≤ 7) : rowBy f [] r = r := by
  refine ext_rd (rowBy_len _ _ _) (fun i hi => ?_)
  rw [rowBy_len] at hi
  rw [rowBy_rd hi, sumAt]
  have := h _ (List.getElem_mem hi)
  rw [rd_lt hi]; omega
/-- The reference's walk of one walker. -/
theorem specTurned_ev {r : List Int} {x : S38} {n : Int} (hb : 1 ≤ r.length) (hb1 : r.length ≤ 60) (hr : ∀ y ∈ r, 0 ≤ y ∧ y ≤ 255) (hx : WOk r.length x) :
    Ev (fun k => spec_l05Turned.f k r x.f0 x.f1 x.f2 x.f3 x.f4 x.f5 n) (rowBy (fun _ => n) [x] r) := by
  refine Ev.congr (fun k => ?_) (Ev.bind (specVisits_ev (by omega) (by omega) hx) (f := fun _ vs => if (vs : List Int).length = r.length ∧ r.length < 140737488355328 then some (List.zipWith (turnAt n x.f5) vs r) else none) (Ev.some fun k => ?_))
  · rfl
  · have hl : (vis r.length x).length = r.length := by rw [vis_len]; omega
    rw [if_pos ⟨hl, by omega⟩]
    congr 1
    refine ext_rd (by simp [rowBy_len, hl]) (fun i hi => ?_)
    have hi' : i < r.length := by simpa [hl] using hi
    rw [rd_zipWith (by omega) hi', rowBy_rd hi', turnAt_eq ?_ (vis_rd hx _) hx.h5, sumAt, sumAt]
    · congr 1; omega
    · rw [rd_lt hi']; exact hr _ (List.getElem_mem hi')
theorem rowBy_cons (f : S38 → Int) (x : S38) (ws : List S38) (r : List Int) : rowBy f ws (rowBy (fun _ => f x) [x] r) = rowBy f (x :: ws) r := by
  refine ext_rd (by simp [rowBy_len]) (fun i hi => ?_)
  rw [rowBy_len, rowBy_len] at hi
  rw [rowBy_rd (by rw [rowBy_len]; exact hi), rowBy_rd hi, rowBy_rd hi, rowBy_len, sumAt, sumAt, sumAt]
  omega
/-- The program's walk of all walkers. -/
theorem walkSums_ev {b : Int} (hb : 1 ≤ b) (hb1 : b ≤ 60) (f : S38 → Int) : ∀ (ws : List S38) (S : List Int) (B : Nat), (∀ x ∈ ws, WOk b x) → (∀ x ∈ ws, (f x).natAbs ≤ 1000000) → S.length = b.toNat → (∀ i : Nat, (rd S i).natAbs ≤ B) → B + ws.length * 420000000 ≤ 1000000000000 →
    ∃ S', Ev (fun k => walkSums k b f ws S) S' ∧ S'.length = b.toNat ∧ ∀ i : Nat, i < b.toNat → rd S' i = rd S i + sumAt b f i ws ∧ (rd S' i).natAbs ≤ 1000000000000
  | [], S, B, _, _, hl, hS, hB => ⟨S, Ev.pure S, hl, fun i hi => ⟨by simp [sumAt], by have := hS i; simp at hB; omega⟩⟩
  | x :: ws, S, B, hw, hf, hl, hS, hB => by
    have hx := hw x List.mem_cons_self
    have hfx := hf x List.mem_cons_self
    have hvl := vis_len b x
    have h5 := hx.h5
    have hm1 : ∀ i : Nat, (f x * rd (vis b x) i).natAbs ≤ 1000000 * 60 := fun i => mul_bd hfx (by have := vis_rd hx i; omega)
    have hm2 : ∀ i : Nat, (f x * rd (vis b x) i * x.f5).natAbs ≤ 1000000 * 60 * 7 := fun i => mul_bd (hm1 i) (by omega)
    have hlen : (addVis (f x) x.f5 S (vis b x)).length = b.toNat := by rw [addVis_len (by omega)]; exact hl
    have hB' : B + 420000000 + ws.length * 420000000 ≤ 1000000000000 := by simp at hB; omega
    have hrd : ∀ i : Nat, i < b.toNat → rd (addVis (f x) x.f5 S (vis b x)) i = rd S i + f x * rd (vis b x) i * x.f5 := fun i hi => by
      unfold addVis
      rw [rd_zipWith (by omega) (by omega)]
      have a1 := hm1 i
      have a2 := hm2 i
      have a3 := hS i
      rw [w64 (x := x.f5) (by omega) (by omega), w64 (x := f x * rd (vis b x) i) (by omega) (by omega), w64 (x := f x * rd (vis b x) i * x.f5) (by omega) (by omega), w64 (by omega) (by omega)]
    have hbd : ∀ i : Nat, (rd (addVis (f x) x.f5 S (vis b x)) i).natAbs ≤ B + 420000000 := fun i => by
      by_cases hi : i < b.toNat
      · rw [hrd i hi]; have := hS i; have := hm2 i; omega
      · have : rd (addVis (f x) x.f5 S (vis b x)) i = 0 := by simp only [rd, Int.toNat_natCast]; rw [List.getD_eq_getElem?_getD, List.getElem?_eq_none (by omega)]; rfl
        rw [this]; simp
    obtain ⟨S', hev, hl', hS'⟩ := walkSums_ev hb hb1 f ws (addVis (f x) x.f5 S (vis b x)) (B + 420000000) (fun y hy => hw y (List.mem_cons_of_mem _ hy)) (fun y hy => hf y (List.mem_cons_of_mem _ hy)) hlen hbd hB'
    refine ⟨S', ?_, hl', fun i hi => ⟨?_, (hS' i hi).2⟩⟩
    · refine Ev.congr (fun k => ?_) (Ev.bind (implVisits_ev hb hb1 hx) (f := fun k vs => if (vs : List Int).length = S.length then walkSums k b f ws (addVis (f x) x.f5 S vs) else none) (Ev.congr (fun k => ?_) hev))
      · rfl
      · rw [if_pos (by omega)]
    · rw [(hS' i hi).1, hrd i hi, sumAt]; omega
theorem walked_ev {r : List Int} (hb : 1 ≤ r.length) (hb1 : r.length ≤ 60) (hr : ∀ y ∈ r, 0 ≤ y ∧ y ≤ 255) (f : S38 → Int) (ws : List S38) (hl : ws.length ≤ 8) (hw : ∀ x ∈ ws, WOk r.length x) (hf : ∀ x ∈ ws, (f x).natAbs ≤ 1000000) :
    Ev (fun k => walkedF k r ws f) (rowBy f ws r) := by
  obtain ⟨S, hev, hl', hS⟩ := walkSums_ev (b := r.length) (by omega) (by omega) f ws (List.replicate r.length 0) 0 hw hf (by simp) (fun i => by simp only [rd, List.getD_eq_getElem?_getD]; rw [List.getElem?_replicate]; split <;> simp) (by omega)
  refine Ev.congr (fun k => rfl) (Ev.bind hev (Ev.some fun k => ?_))
  rw [if_pos ⟨by omega, by omega⟩]
  congr 1
  refine ext_rd (by simp [rowBy_len]; omega) (fun i hi => ?_)
  have hi' : i < r.length := by simp at hi; omega
  have hr' := hr _ (List.getElem_mem hi')
  obtain ⟨e, hbd⟩ := hS i (by omega)
  have z : rd (List.replicate r.length 0) (i : Int) = 0 := by rw [rd_lt (by simpa using hi')]; simp
  rw [rd_zipWith hi' (by omega), rowBy_rd hi', eighth_eq]
  rw [rd_lt hi'] at *
  rw [w64 (x := r[i]) (by omega) (by omega), w64 (by omega) (by omega), e, z]; omega
end Go.Proofs.Ytmheflciiodhdaa.P
-- Written by wip/tools/mkprint.py of this repo, over the kit's print, out of the translation; Lean checks it.
namespace Go.Proofs.Ytmheflciiodhdaa.P
open Go.RowKit Go.Proofs.YtmheflciiodhdaaW.PrintWords Go.Proofs.YtmheflciiodhdaaW.PrintLast Go.Proofs.YtmheflciiodhdaaW.PrintMore
attribute [local go_sem] max2_int min2_int max_two min_two max_three min_three max_four min_four   -- for this text's walks alone
set_option linter.unusedVariables false
set_option linter.unusedSimpArgs false
/-! ### spec_l05Span: function 82 -/
def spec_l05Span.f (a0 : Int) (a1 : Int) (a2 : Int) : Option (Int) := if a0 = 0 then (if (wrap64 ((wrap64 (a2 - a1)) + 1)) > 400 then (some 3) else (some 0)) else (some a0)
set_option maxHeartbeats 8000000 in
set_option maxRecDepth 100000 in
theorem spec_l05Span.calls (a0 : Int) (a1 : Int) (a2 : Int) (r : Int) (w : World) (h : spec_l05Span.f a0 a1 a2 = some r) :
    Calls Try.prog 82 #[.int .i64 a0, .int .i64 a1, .int .i64 a2] w fun e w' => e = .returned (.int .i64 r) ∧ Drawn0 w w' := by
  have H : (if a0 = 0 then (if (wrap64 ((wrap64 (a2 - a1)) + 1)) > 400 then (some 3) else (some 0)) else (some a0)) = some r := h
  clear h
  by_cases c4 : a0 = 0
  · rw [if_pos c4] at H
    have c4b0 : (a0 == 0) = true := beq_iff_eq.mpr c4
    have c4b1 : (a0 != 0) = false := bne_eq_false_iff_eq.mpr c4
    clear c4
    by_cases c5 : (wrap64 ((wrap64 (a2 - a1)) + 1)) > 400
    · rw [if_pos c5] at H
      have c5b0 : decide (400 < (wrap64 ((wrap64 (a2 - a1)) + 1))) = true := decide_eq_true c5
      clear c5
      obtain rfl := Option.some.inj H
      go_enter Try.func82, Try.ntmps82
      go_wp2
      go_ret
      exact ⟨by first | rfl | (simp; done) | (simp [*]; done), by repeat (first | exact Drawn0.refl _ | apply Drawn0.step)⟩
    · rw [if_neg c5] at H
      have c5b0 : decide (400 < (wrap64 ((wrap64 (a2 - a1)) + 1))) = false := decide_eq_false c5
      clear c5
      obtain rfl := Option.some.inj H
      go_enter Try.func82, Try.ntmps82
      go_wp2
      go_ret
      exact ⟨by first | rfl | (simp; done) | (simp [*]; done), by repeat (first | exact Drawn0.refl _ | apply Drawn0.step)⟩
  · rw [if_neg c4] at H
    have c4b0 : (a0 == 0) = false := beq_eq_false_iff_ne.mpr c4
    have c4b1 : (a0 != 0) = true := bne_iff_ne.mpr c4
    obtain rfl := Option.some.inj H
    go_enter Try.func82, Try.ntmps82
    go_wp2
    go_ret
    exact ⟨by first | rfl | (simp; done) | (simp [*]; done), by repeat (first | exact Drawn0.refl _ | apply Drawn0.step)⟩
end Go.Proofs.Ytmheflciiodhdaa.P
-- Written by wip/tools/mkprint.py of this repo, over the kit's print, out of the translation; Lean checks it.
namespace Go.Proofs.Ytmheflciiodhdaa.P
open Go.RowKit Go.Proofs.YtmheflciiodhdaaW.PrintWords Go.Proofs.YtmheflciiodhdaaW.PrintLast Go.Proofs.YtmheflciiodhdaaW.PrintMore
attribute [local go_sem] max2_int min2_int max_two min_two max_three min_three max_four min_four   -- for this text's walks alone
set_option linter.unusedVariables false
set_option linter.unusedSimpArgs false
/-! ### spec_l05From: function 83 -/
def spec_l05From.f (a0 : Int) (a1 : Int) : Option (Bool) := (spec_l05Day.f a0).bind fun t354 => (if t354 = true then ((spec_l05Day.f a1).bind fun t355 => (if t355 = true then (some (decide (a0 ≤ a1))) else (some false))) else (some false))
set_option maxHeartbeats 8000000 in
set_option maxRecDepth 100000 in
theorem spec_l05From.calls (a0 : Int) (a1 : Int) (r : Bool) (w : World) (h : spec_l05From.f a0 a1 = some r) :
    Calls Try.prog 83 #[.int .i64 a0, .int .i64 a1] w fun e w' => e = .returned (.bool r) ∧ Drawn0 w w' := by
  have H : ((spec_l05Day.f a0).bind fun t354 => (if t354 = true then ((spec_l05Day.f a1).bind fun t355 => (if t355 = true then (some (decide (a0 ≤ a1))) else (some false))) else (some false))) = some r := h
  clear h
  replace H := Option.bind_eq_some_iff.mp H
  obtain ⟨t354, A30, H⟩ := H
  replace H : (if t354 = true then ((spec_l05Day.f a1).bind fun t355 => (if t355 = true then (some (decide (a0 ≤ a1))) else (some false))) else (some false)) = some r := H
  have A3 := Aside0.mk A30
  clear A30
  by_cases c4 : t354 = true
  · subst c4
    have H1 : ((spec_l05Day.f a1).bind fun t355 => (if t355 = true then (some (decide (a0 ≤ a1))) else (some false))) = some r := by rw [if_pos rfl] at H; exact H
    clear H
    have H := H1
    clear H1
    replace H := Option.bind_eq_some_iff.mp H
    obtain ⟨t355, A50, H⟩ := H
    replace H : (if t355 = true then (some (decide (a0 ≤ a1))) else (some false)) = some r := H
    have A5 := Aside0.mk A50
    clear A50
    by_cases c6 : t355 = true
    · subst c6
      have H1 : (some (decide (a0 ≤ a1))) = some r := by rw [if_pos rfl] at H; exact H
      clear H
      have H := H1
      clear H1
      obtain rfl := Option.some.inj H
      go_enter Try.func83, Try.ntmps83
      go_wp2_with (first | ((with_reducible refine gate_callee (f := 65) rfl ?_); refine goesL_ (some 6) rfl rfl Try.func65 (by kernel_rfl) rfl #[.int .i64 a0] rfl (by (try simp only [List.map_toArray, List.map_cons, List.map_nil]); first | done | rfl | (simp only [List.length_drop, List.length_take]; rfl)) ?_; (with_reducible refine (spec_l05Day.calls a0 true _ A3.out).mono ?_); rintro e w' ⟨rfl, ⟨nd, rfl⟩⟩; refine ⟨_, rfl, ?_⟩) | (go_at_call 65; (with_reducible refine (spec_l05Day.calls a1 true _ A5.out).mono ?_); rintro e w' ⟨rfl, ⟨nd, rfl⟩⟩))
      go_ret
      exact ⟨by first | rfl | (simp; done) | (simp [*]; done), by repeat (first | exact Drawn0.refl _ | apply Drawn0.step)⟩
    · replace c6 := Bool.eq_false_iff.mpr c6
      subst c6
      have H1 : (some false) = some r := by rw [if_neg (show ¬ (false = true) by decide)] at H; exact H
      clear H
      have H := H1
      clear H1
      obtain rfl := Option.some.inj H
      go_enter Try.func83, Try.ntmps83
      go_wp2_with (first | ((with_reducible refine gate_callee (f := 65) rfl ?_); refine goesL_ (some 6) rfl rfl Try.func65 (by kernel_rfl) rfl #[.int .i64 a0] rfl (by (try simp only [List.map_toArray, List.map_cons, List.map_nil]); first | done | rfl | (simp only [List.length_drop, List.length_take]; rfl)) ?_; (with_reducible refine (spec_l05Day.calls a0 true _ A3.out).mono ?_); rintro e w' ⟨rfl, ⟨nd, rfl⟩⟩; refine ⟨_, rfl, ?_⟩) | (go_at_call 65; (with_reducible refine (spec_l05Day.calls a1 false _ A5.out).mono ?_); rintro e w' ⟨rfl, ⟨nd, rfl⟩⟩))
      go_ret
      exact ⟨by first | rfl | (simp; done) | (simp [*]; done), by repeat (first | exact Drawn0.refl _ | apply Drawn0.step)⟩
  · replace c4 := Bool.eq_false_iff.mpr c4
    subst c4
    have H1 : (some false) = some r := by rw [if_neg (show ¬ (false = true) by decide)] at H; exact H
    clear H
    have H := H1
    clear H1
    obtain rfl := Option.some.inj H
    go_enter Try.func83, Try.ntmps83
    go_wp2_with (first | ((with_reducible refine gate_callee (f := 65) rfl ?_); refine goesL_ (some 6) rfl rfl Try.func65 (by kernel_rfl) rfl #[.int .i64 a0] rfl (by (try simp only [List.map_toArray, List.map_cons, List.map_nil]); first | done | rfl | (simp only [List.length_drop, List.length_take]; rfl)) ?_; (with_reducible refine (spec_l05Day.calls a0 false _ A3.out).mono ?_); rintro e w' ⟨rfl, ⟨nd, rfl⟩⟩; refine ⟨_, rfl, ?_⟩))
    go_ret
    exact ⟨by first | rfl | (simp; done) | (simp [*]; done), by repeat (first | exact Drawn0.refl _ | apply Drawn0.step)⟩
end Go.Proofs.Ytmheflciiodhdaa.P
-- Written by wip/tools/mkprint.py of this repo, over the kit's print, out of the translation; Lean checks it.
namespace Go.Proofs.Ytmheflciiodhdaa.P
open Go.RowKit Go.Proofs.YtmheflciiodhdaaW.PrintWords Go.Proofs.YtmheflciiodhdaaW.PrintLast Go.Proofs.YtmheflciiodhdaaW.PrintMore
attribute [local go_sem] max2_int min2_int max_two min_two max_three min_three max_four min_four   -- for this text's walks alone
set_option linter.unusedVariables false
set_option linter.unusedSimpArgs false
/-! ### spec_l05Behind: function 78 -/
def spec_l05Behind.l0 : Nat → List (S38) → Int → List Int → Int → Option (List Int)
  | 0, _, _, _, _ => none
  | k + 1, x1, x2, x7, x8 => if x8 < (x1.length : Int) then (if 0 ≤ x8 then ((spec_l05On.f ((rd_T38 x1 x8).f0) ((rd_T38 x1 x8).f1) ((rd_T38 x1 x8).f2) ((rd_T38 x1 x8).f3) ((rd_T38 x1 x8).f4) ((rd_T38 x1 x8).f5) x2).bind fun t265 => (if t265 = true then ((spec_l05Turned.f k x7 ((rd_T38 x1 x8).f0) ((rd_T38 x1 x8).f1) ((rd_T38 x1 x8).f2) ((rd_T38 x1 x8).f3) ((rd_T38 x1 x8).f4) ((rd_T38 x1 x8).f5) 1).bind fun t267 => (spec_l05Behind.l0 k x1 x2 t267 (wrap64 (x8 + 1)))) else (spec_l05Behind.l0 k x1 x2 x7 (wrap64 (x8 + 1))))) else (none)) else (some x7)
def spec_l05Behind.f (k : Nat) (l0 : List Int) (l1 : List (S38)) (a2 : Int) : Option (List Int) := (some (([] : List Int) : List Int)).bind fun y258 => (if y258.length + l0.length < 140737488355328 then (spec_l05Behind.l0 k l1 a2 (y258 ++ l0) 0) else (none))
theorem spec_l05Behind.mono_l : ∀ k, (∀ y0 y1 y2 y3, LeO (spec_l05Behind.l0 k y0 y1 y2 y3) (spec_l05Behind.l0 (k + 1) y0 y1 y2 y3))
  | 0 => fun _ _ _ _ r h => by simp [spec_l05Behind.l0] at h
  | k + 1 => by
    have ih0 := spec_l05Behind.mono_l k
    · intro y0 y1 y2 y3
      unfold spec_l05Behind.l0
      repeat' first
      | (with_reducible exact ih0 _ _ _ _)
      | (with_reducible exact spec_l05Turned.mono _ _ _ _ _ _ _ _ _)
      | (with_reducible exact LeO.refl _)
      | (with_reducible exact LeO.none _)
      | (with_reducible refine LeO.ite ?_ ?_)
      | (with_reducible refine LeO.bind ?_ (fun _ => ?_))
      | exact ih0 _ _ _ _
      | exact spec_l05Turned.mono _ _ _ _ _ _ _ _ _
      | exact LeO.none _
      | refine LeO.ite ?_ ?_
      | refine LeO.bind ?_ (fun _ => ?_)
theorem spec_l05Behind.mono : ∀ a0 a1 a2 k, LeO (spec_l05Behind.f k a0 a1 a2) (spec_l05Behind.f (k + 1) a0 a1 a2) := by
  intro a0 a1 a2 k
  have ih0 := spec_l05Behind.mono_l k
  unfold spec_l05Behind.f
  repeat' first
      | (with_reducible exact ih0 _ _ _ _)
      | (with_reducible exact spec_l05Turned.mono _ _ _ _ _ _ _ _ _)
      | (with_reducible exact LeO.refl _)
      | (with_reducible exact LeO.none _)
      | (with_reducible refine LeO.ite ?_ ?_)
      | (with_reducible refine LeO.bind ?_ (fun _ => ?_))
      | exact ih0 _ _ _ _
      | exact spec_l05Turned.mono _ _ _ _ _ _ _ _ _
      | exact LeO.none _
      | refine LeO.ite ?_ ?_
      | refine LeO.bind ?_ (fun _ => ?_)
set_option maxHeartbeats 8000000 in
set_option maxRecDepth 100000 in
theorem spec_l05Behind.calls (k : Nat) (A0 : Option Addr) (c0 : Nat) (l0 : List Int) (A1 : Option Addr) (c1 : Nat) (l1 : List (S38)) (a2 : Int) (r : List Int) (w : World) (hr0 : Kd.C (Kd.int .u8) w A0 l0.length l0) (hc0 : l0.length ≤ c0) (hr1 : Kd.C k38 w A1 l1.length l1) (hc1 : l1.length ≤ c1) (h : spec_l05Behind.f k l0 l1 a2 = some r) :
    Calls Try.prog 78 #[.slice A0 l0.length c0, .slice A1 l1.length c1, .int .i64 a2] w fun e w' => ∃ v0_ : Value, e = .returned (v0_) ∧ Kd.R (Kd.int .u8) 5 w' w.heap.size (fun _ => True) v0_ r ∧ Below w.heap.size w w' := by
  have hu38 := Try.underlying38
  have HR0 := Aside0.mk hr0
  have HC0 := Aside0.mk hc0
  clear hr0 hc0
  have HR1 := Aside0.mk hr1
  have HC1 := Aside0.mk hc1
  clear hr1 hc1
  have HB := Aside0.mk (Below.refl w.heap.size w)
  have H : ((some (([] : List Int) : List Int)).bind fun y258 => (if y258.length + l0.length < 140737488355328 then (spec_l05Behind.l0 k l1 a2 (y258 ++ l0) 0) else (none))) = some r := h
  clear h
  obtain ⟨y258, hy258⟩ : ∃ y_ : List Int, y_ = (([] : List Int)) := ⟨_, rfl⟩
  replace H : (if y258.length + l0.length < 140737488355328 then (spec_l05Behind.l0 k l1 a2 (y258 ++ l0) 0) else (none)) = some r := by first | (rw [hy258]; with_reducible exact H) | (have H2_ := (Option.bind_some _ _).symm.trans H; rw [hy258]; with_reducible exact H2_) | (have H2_ := (Option.bind_some _ _).symm.trans H; with_reducible exact H2_) | with_reducible exact H | (rw [hy258]; exact H) | exact H
  have Ny258 := Aside0.mk hy258
  clear hy258
  by_cases c4 : y258.length + l0.length < 140737488355328
  · rw [if_pos c4] at H
    have LMc4 := Aside0.mk c4
    clear c4
    obtain ⟨y261, hy261⟩ : ∃ y_ : List Int, y_ = (y258 ++ l0) := ⟨_, rfl⟩
    replace H : (spec_l05Behind.l0 k l1 a2 y261 0) = some r := by first | (rw [hy261]; with_reducible exact H) | (have H2_ := (Option.bind_some _ _).symm.trans H; rw [hy261]; with_reducible exact H2_) | (have H2_ := (Option.bind_some _ _).symm.trans H; with_reducible exact H2_) | with_reducible exact H | (rw [hy261]; exact H) | exact H
    have Ny261 := Aside0.mk hy261
    clear hy261
    have H' := Aside0.mk H
    clear H
    go_enter Try.func78, Try.ntmps78
    go_wp2_with (first | ((with_reducible refine gate_dst (N := 9) rfl ?_); refine Kd.R_lit (Kd.int .u8) _ 5 ?hg (N := 9) ?hd (xs := ([] : List Int)) (inner := []) (ok := fun _ => True) (okp := fun _ => True) ?hr ?hp (fun _ hk => hk) trivial (Below.refl _ _) (Nat.le_refl _) (by simp) ?_; (case hd => rfl); (case hg => rfl); (case hr => first | (go_simp; done) | (go_simp; rfl)); (case hp => exact (Reps.none _ _)); intro v259 w5 ho6 hb hg_ hnew_; clear hg_ hnew_; (first | rw [← Ny258.out] at ho6 | (simp only [Int.reduceToNat] at ho6; rw [← Ny258.out] at ho6)); have n0_ := Aside0.mk (Kd.R_lower ho6 (below_size (by repeat (first | (with_reducible first | exact HB.out | apply below_alloc | apply pw_below_drewN | apply below_drew1) | exact HB.out)))); have n1_ := Aside0.mk (below_step (by repeat (first | (with_reducible first | exact HB.out | apply below_alloc | apply pw_below_drewN | apply below_drew1) | exact HB.out)) hb); clear HB; have HO260 := n0_; have HB := n1_; clear n0_ n1_; clear hb ho6) | ((with_reducible refine gate_builtin (b := .append) (xs := #[.tmp 9, .tmp 10]) rfl ?_); at_builtin; refine Kd.R_append_rows (Kd.int .u8) (w0 := w) w.heap.size rfl (.tmp 9) (.tmp 10) 24 5 (.int .u8 0) 1 rfl Try.underlying24 info5 rfl (by decide) (by omega) v259 y258 l0 _ _ _ (fun _ => True) (fun _ => False) rfl rfl ?aO ?aR (fun _ _ h => h) (fun _ h => h.elim) ?aF ?aB ?aS ?aL ?_; (case aR => repeat (first | exact (Kd.C_below HR0.out HB.out) | (with_reducible refine Kd.C_alloc ?_ _) | (with_reducible refine Kd.C_drewN ?_ _) | (with_reducible refine Kd.C_drew ?_))); (case aB => exact (by repeat (first | (with_reducible first | exact HB.out | apply below_alloc | apply pw_below_drewN | apply below_drew1) | exact HB.out))); (case aF => exact (fun _ _ => trivial)); (case aO => exact (by (with_reducible repeat (first | apply Kd.R_alloc | apply Kd.R_drewN | apply Kd.R_drew)); exact HO260.out)); (case aS => exact (below_size (by repeat (first | (with_reducible first | exact HB.out | apply below_alloc | apply pw_below_drewN | apply below_drew1) | exact HB.out)))); (case aL => have := LMc4.out; omega); intro v262 w7 ho hb hg hat; rw [← Ny261.out] at ho; have n0_ := Aside0.mk (hb); have n1_ := Aside0.mk (ho); clear HB; clear HO260; have HB := n0_; have HO263 := n1_; clear n0_ n1_; clear ho hb hg hat))
    go_loopg [7, 8] k (fun kq v7 v8 w' => ∃ (x7_1 : List Int) (x8_1 : Int), v8 = .int .i64 x8_1 ∧ Aside0 (spec_l05Behind.l0 kq l1 a2 x7_1 x8_1 = some r) ∧ Aside0 (kq ≤ k) ∧ Aside0 (Kd.R (Kd.int .u8) 5 w' w.heap.size (fun _ => True) v7 x7_1) ∧ Aside0 (Below w.heap.size w w'))
    case atStart => exact ⟨(y261), (0), (by first | rfl | (simp; done) | (simp [*]; done)), H', ⟨Nat.le_refl _⟩, ⟨by (with_reducible repeat (first | apply Kd.R_alloc | apply Kd.R_drewN | apply Kd.R_drew)); exact HO263.out⟩, ⟨by repeat (first | (with_reducible first | exact HB.out | apply below_alloc | apply pw_below_drewN | apply below_drew1) | exact HB.out)⟩⟩
    case round =>
      clear H'
      try clear c1
      try clear p2
      try clear c4
      try clear c7
      obtain ⟨x7_1, x8_1, rfl, HA, HK1, HO_7, HB⟩ := hrel
      cases gk with
      | zero => exact absurd HA.out (by simp [spec_l05Behind.l0])
      | succ k1 =>
        have H := HA.out
        clear HA
        simp only [spec_l05Behind.l0] at H
        by_cases c8 : x8_1 < (l1.length : Int)
        · rw [if_pos c8] at H
          have c8b0 : decide (x8_1 < (l1.length : Int)) = true := decide_eq_true c8
          clear c8
          by_cases c9 : 0 ≤ x8_1
          · rw [if_pos c9] at H
            have c9b0 : decide (0 ≤ x8_1) = true := decide_eq_true c9
            clear c9
            replace H := Option.bind_eq_some_iff.mp H
            obtain ⟨t265, A100, H⟩ := H
            replace H : (if t265 = true then ((spec_l05Turned.f k1 x7_1 ((rd_T38 l1 x8_1).f0) ((rd_T38 l1 x8_1).f1) ((rd_T38 l1 x8_1).f2) ((rd_T38 l1 x8_1).f3) ((rd_T38 l1 x8_1).f4) ((rd_T38 l1 x8_1).f5) 1).bind fun t267 => (spec_l05Behind.l0 k1 l1 a2 t267 (wrap64 (x8_1 + 1)))) else (spec_l05Behind.l0 k1 l1 a2 x7_1 (wrap64 (x8_1 + 1)))) = some r := H
            have A10 := Aside0.mk A100
            clear A100
            by_cases c11 : t265 = true
            · subst c11
              have H1 : ((spec_l05Turned.f k1 x7_1 ((rd_T38 l1 x8_1).f0) ((rd_T38 l1 x8_1).f1) ((rd_T38 l1 x8_1).f2) ((rd_T38 l1 x8_1).f3) ((rd_T38 l1 x8_1).f4) ((rd_T38 l1 x8_1).f5) 1).bind fun t267 => (spec_l05Behind.l0 k1 l1 a2 t267 (wrap64 (x8_1 + 1)))) = some r := by rw [if_pos rfl] at H; exact H
              clear H
              have H := H1
              clear H1
              replace H := Option.bind_eq_some_iff.mp H
              obtain ⟨t267, A120, H⟩ := H
              replace H : (spec_l05Behind.l0 k1 l1 a2 t267 (wrap64 (x8_1 + 1))) = some r := H
              have A12 := Aside0.mk A120
              clear A120
              have H' := Aside0.mk H
              clear H
              have p264 : 0 ≤ (x8_1 : Int) := of_decide_eq_true (by first | (with_reducible assumption) | assumption)
              have q264 : x8_1 < (l1.length : Int) := of_decide_eq_true (by first | (with_reducible assumption) | assumption)
              obtain ⟨ad264, e264, hx264_0, hx264_1, hx264_2, hx264_3, hx264_4, hx264_5⟩ := at_T38 HR1.out x8_1 p264 q264
              cases e264
              replace hx264_0 := (HB.out.cell (World.block_lt_of_cell? w _ hx264_0)).trans hx264_0
              replace hx264_1 := (HB.out.cell (World.block_lt_of_cell? w _ hx264_1)).trans hx264_1
              replace hx264_2 := (HB.out.cell (World.block_lt_of_cell? w _ hx264_2)).trans hx264_2
              replace hx264_3 := (HB.out.cell (World.block_lt_of_cell? w _ hx264_3)).trans hx264_3
              replace hx264_4 := (HB.out.cell (World.block_lt_of_cell? w _ hx264_4)).trans hx264_4
              replace hx264_5 := (HB.out.cell (World.block_lt_of_cell? w _ hx264_5)).trans hx264_5
              replace p264 := eq_true p264
              replace q264 := eq_true q264
              go_wp2_with (first | ((with_reducible refine gate_callee (f := 77) rfl ?_); refine goesL_ (some 23) rfl rfl Try.func77 (by kernel_rfl) rfl #[.agg #[.int .i16 ((rd_T38 l1 x8_1).f0), .int .i16 ((rd_T38 l1 x8_1).f1), .int .i16 ((rd_T38 l1 x8_1).f2), .int .i16 ((rd_T38 l1 x8_1).f3), .int .i16 ((rd_T38 l1 x8_1).f4), .int .i8 ((rd_T38 l1 x8_1).f5)], .int .i64 a2] rfl (by (try simp only [List.map_toArray, List.map_cons, List.map_nil]); first | done | rfl | (simp only [List.length_drop, List.length_take]; rfl)) ?_; (with_reducible refine (spec_l05On.calls ((rd_T38 l1 x8_1).f0) ((rd_T38 l1 x8_1).f1) ((rd_T38 l1 x8_1).f2) ((rd_T38 l1 x8_1).f3) ((rd_T38 l1 x8_1).f4) ((rd_T38 l1 x8_1).f5) a2 true _ A10.out).mono ?_); rintro e w13 ⟨rfl, hb⟩; refine ⟨_, rfl, ?_⟩; have n0_ := Aside0.mk (Kd.R_below (by (with_reducible repeat (first | apply Kd.R_alloc | apply Kd.R_drewN | apply Kd.R_drew)); exact HO_7.out) hb); have n1_ := Aside0.mk (below_step (by repeat (first | (with_reducible first | exact HB.out | apply below_alloc | apply pw_below_drewN | apply below_drew1) | exact HB.out)) hb); clear HO_7; clear HB; have HO_7 := n0_; have HB := n1_; clear n0_ n1_; (try clear hb); (try clear hb2); (try clear hk); (try clear hi); have p266 : 0 ≤ (x8_1 : Int) := of_decide_eq_true (by first | (with_reducible assumption) | assumption); have q266 : x8_1 < (l1.length : Int) := of_decide_eq_true (by first | (with_reducible assumption) | assumption); obtain ⟨ad266, e266, hx266_0, hx266_1, hx266_2, hx266_3, hx266_4, hx266_5⟩ := at_T38 HR1.out x8_1 p266 q266; obtain rfl : ad264 = ad266 := (by injection e266); replace hx266_0 := (HB.out.cell (World.block_lt_of_cell? w _ hx266_0)).trans hx266_0; replace hx266_1 := (HB.out.cell (World.block_lt_of_cell? w _ hx266_1)).trans hx266_1; replace hx266_2 := (HB.out.cell (World.block_lt_of_cell? w _ hx266_2)).trans hx266_2; replace hx266_3 := (HB.out.cell (World.block_lt_of_cell? w _ hx266_3)).trans hx266_3; replace hx266_4 := (HB.out.cell (World.block_lt_of_cell? w _ hx266_4)).trans hx266_4; replace hx266_5 := (HB.out.cell (World.block_lt_of_cell? w _ hx266_5)).trans hx266_5; replace p266 := eq_true p266; replace q266 := eq_true q266; obtain ⟨Ao14, co14, eo14⟩ := Kd.R_slice HO_7.out; subst eo14) | ((with_reducible refine gate_callee (f := 76) rfl ?_); refine goesL_ (some 29) rfl rfl Try.func76 (by kernel_rfl) rfl #[.slice Ao14 x7_1.length co14, .agg #[.int .i16 ((rd_T38 l1 x8_1).f0), .int .i16 ((rd_T38 l1 x8_1).f1), .int .i16 ((rd_T38 l1 x8_1).f2), .int .i16 ((rd_T38 l1 x8_1).f3), .int .i16 ((rd_T38 l1 x8_1).f4), .int .i8 ((rd_T38 l1 x8_1).f5)], .int .i64 1] rfl (by (try simp only [List.map_toArray, List.map_cons, List.map_nil]); first | done | rfl | (simp only [List.length_drop, List.length_take]; rfl)) ?_; (with_reducible refine (spec_l05Turned.calls k1 _ _ x7_1 ((rd_T38 l1 x8_1).f0) ((rd_T38 l1 x8_1).f1) ((rd_T38 l1 x8_1).f2) ((rd_T38 l1 x8_1).f3) ((rd_T38 l1 x8_1).f4) ((rd_T38 l1 x8_1).f5) 1 t267 _ ?side1 ?side2 A12.out).mono ?_); (case side1 => repeat (first | exact (Kd.R_reads' HO_7.out).2.2 | (with_reducible refine Kd.C_alloc ?_ _) | (with_reducible refine Kd.C_drewN ?_ _) | (with_reducible refine Kd.C_drew ?_))); (case side2 => exact (Kd.R_reads' HO_7.out).2.1); rintro e w15 ⟨v268, rfl, ho0, hb⟩; refine ⟨_, rfl, ?_⟩; have n0_ := Aside0.mk (Kd.R_elder' (by (with_reducible repeat (first | apply Kd.R_alloc | apply Kd.R_drewN | apply Kd.R_drew)); exact HO_7.out) (Kd.R_base ho0) hb); have n1_ := Aside0.mk (Kd.R_lower (Kd.R_new' ho0 (Kd.R_lt (by (with_reducible repeat (first | apply Kd.R_alloc | apply Kd.R_drewN | apply Kd.R_drew)); exact HO_7.out))) (below_size (by repeat (first | (with_reducible first | exact HB.out | apply below_alloc | apply pw_below_drewN | apply below_drew1) | exact HB.out)))); have n2_ := Aside0.mk (below_step (by repeat (first | (with_reducible first | exact HB.out | apply below_alloc | apply pw_below_drewN | apply below_drew1) | exact HB.out)) hb); clear HO_7; clear HB; have HO_7 := n0_; have HO269 := n1_; have HB := n2_; clear n0_ n1_ n2_; (try clear hb); (try clear hb2); (try clear hk); (try clear hi); (try clear ho0)))
              go_roundg k1
              case measure => have := HK1.out; omega
              case rel => exact ⟨(t267), (wrap64 (x8_1 + 1)), (by first | rfl | (simp; done) | (simp [*]; done)), H', ⟨by have := HK1.out; omega⟩, ⟨by (with_reducible repeat (first | apply Kd.R_alloc | apply Kd.R_drewN | apply Kd.R_drew)); exact Kd.R_mono HO269.out (fun _ hk => trivial)⟩, ⟨by repeat (first | (with_reducible first | exact HB.out | apply below_alloc | apply pw_below_drewN | apply below_drew1) | exact HB.out)⟩⟩
            · replace c11 := Bool.eq_false_iff.mpr c11
              subst c11
              have H1 : (spec_l05Behind.l0 k1 l1 a2 x7_1 (wrap64 (x8_1 + 1))) = some r := by rw [if_neg (show ¬ (false = true) by decide)] at H; exact H
              clear H
              have H := H1
              clear H1
              have H' := Aside0.mk H
              clear H
              have p264 : 0 ≤ (x8_1 : Int) := of_decide_eq_true (by first | (with_reducible assumption) | assumption)
              have q264 : x8_1 < (l1.length : Int) := of_decide_eq_true (by first | (with_reducible assumption) | assumption)
              obtain ⟨ad264, e264, hx264_0, hx264_1, hx264_2, hx264_3, hx264_4, hx264_5⟩ := at_T38 HR1.out x8_1 p264 q264
              cases e264
              replace hx264_0 := (HB.out.cell (World.block_lt_of_cell? w _ hx264_0)).trans hx264_0
              replace hx264_1 := (HB.out.cell (World.block_lt_of_cell? w _ hx264_1)).trans hx264_1
              replace hx264_2 := (HB.out.cell (World.block_lt_of_cell? w _ hx264_2)).trans hx264_2
              replace hx264_3 := (HB.out.cell (World.block_lt_of_cell? w _ hx264_3)).trans hx264_3
              replace hx264_4 := (HB.out.cell (World.block_lt_of_cell? w _ hx264_4)).trans hx264_4
              replace hx264_5 := (HB.out.cell (World.block_lt_of_cell? w _ hx264_5)).trans hx264_5
              replace p264 := eq_true p264
              replace q264 := eq_true q264
              go_wp2_with (first | ((with_reducible refine gate_callee (f := 77) rfl ?_); refine goesL_ (some 23) rfl rfl Try.func77 (by kernel_rfl) rfl #[.agg #[.int .i16 ((rd_T38 l1 x8_1).f0), .int .i16 ((rd_T38 l1 x8_1).f1), .int .i16 ((rd_T38 l1 x8_1).f2), .int .i16 ((rd_T38 l1 x8_1).f3), .int .i16 ((rd_T38 l1 x8_1).f4), .int .i8 ((rd_T38 l1 x8_1).f5)], .int .i64 a2] rfl (by (try simp only [List.map_toArray, List.map_cons, List.map_nil]); first | done | rfl | (simp only [List.length_drop, List.length_take]; rfl)) ?_; (with_reducible refine (spec_l05On.calls ((rd_T38 l1 x8_1).f0) ((rd_T38 l1 x8_1).f1) ((rd_T38 l1 x8_1).f2) ((rd_T38 l1 x8_1).f3) ((rd_T38 l1 x8_1).f4) ((rd_T38 l1 x8_1).f5) a2 false _ A10.out).mono ?_); rintro e w16 ⟨rfl, hb⟩; refine ⟨_, rfl, ?_⟩; have n0_ := Aside0.mk (Kd.R_below (by (with_reducible repeat (first | apply Kd.R_alloc | apply Kd.R_drewN | apply Kd.R_drew)); exact HO_7.out) hb); have n1_ := Aside0.mk (below_step (by repeat (first | (with_reducible first | exact HB.out | apply below_alloc | apply pw_below_drewN | apply below_drew1) | exact HB.out)) hb); clear HO_7; clear HB; have HO_7 := n0_; have HB := n1_; clear n0_ n1_; (try clear hb); (try clear hb2); (try clear hk); (try clear hi)))
              go_roundg k1
              case measure => have := HK1.out; omega
              case rel => exact ⟨(x7_1), (wrap64 (x8_1 + 1)), (by first | rfl | (simp; done) | (simp [*]; done)), H', ⟨by have := HK1.out; omega⟩, ⟨by (with_reducible repeat (first | apply Kd.R_alloc | apply Kd.R_drewN | apply Kd.R_drew)); exact HO_7.out⟩, ⟨by repeat (first | (with_reducible first | exact HB.out | apply below_alloc | apply pw_below_drewN | apply below_drew1) | exact HB.out)⟩⟩
          · rw [if_neg c9] at H
            exact absurd H (by simp)
        · rw [if_neg c8] at H
          have c8b0 : decide (x8_1 < (l1.length : Int)) = false := decide_eq_false c8
          clear c8
          obtain rfl := Option.some.inj H
          go_wp2
          go_ret
          exact ⟨_, by first | rfl | (simp [errW_none, errW_some] <;> rfl) | (simp [*, errW_none, errW_some] <;> rfl), by (with_reducible repeat (first | apply Kd.R_alloc | apply Kd.R_drewN | apply Kd.R_drew)); exact HO_7.out, by repeat (first | (with_reducible first | exact HB.out | apply below_alloc | apply pw_below_drewN | apply below_drew1) | exact HB.out)⟩
  · rw [if_neg c4] at H
    exact absurd H (by simp)
end Go.Proofs.Ytmheflciiodhdaa.P
-- Written by wip/tools/mkprint.py of this repo, over the kit's print, out of the translation; Lean checks it.
namespace Go.Proofs.Ytmheflciiodhdaa.P
open Go.RowKit Go.Proofs.YtmheflciiodhdaaW.PrintWords Go.Proofs.YtmheflciiodhdaaW.PrintLast Go.Proofs.YtmheflciiodhdaaW.PrintMore
attribute [local go_sem] max2_int min2_int max_two min_two max_three min_three max_four min_four   -- for this text's walks alone
set_option linter.unusedVariables false
set_option linter.unusedSimpArgs false
/-! ### impl_spanCode: function 86 -/
def impl_spanCode.j0 : Nat → Int → Int → Int → Option (Int)
  | 0, _, _, _ => none
  | k + 1, x1, x2, x7 => if x7 = 0 then (if (wrap64 ((wrap64 (x2 - x1)) + 1)) > 400 then (some 3) else (some 0)) else (some x7)
def impl_spanCode.f (k : Nat) (a0 : Bool) (a1 : Int) (a2 : Int) : Option (Int) := (impl_isDay.f (([a1, a2] : List Int))).bind fun t247 => (if t247 = true then ((impl_codeOf.f a0 (decide (a1 ≤ a2))).bind fun t248 => (impl_spanCode.j0 k a1 a2 t248)) else ((impl_codeOf.f a0 false).bind fun t249 => (impl_spanCode.j0 k a1 a2 t249)))
theorem impl_spanCode.mono_l : ∀ k, (∀ y0 y1 y2, LeO (impl_spanCode.j0 k y0 y1 y2) (impl_spanCode.j0 (k + 1) y0 y1 y2))
  | 0 => fun _ _ _ r h => by simp [impl_spanCode.j0] at h
  | k + 1 => by
    have ih0 := impl_spanCode.mono_l k
    · intro y0 y1 y2
      unfold impl_spanCode.j0
      repeat' first
      | (with_reducible exact ih0 _ _ _)
      | (with_reducible exact LeO.refl _)
      | (with_reducible exact LeO.none _)
      | (with_reducible refine LeO.ite ?_ ?_)
      | (with_reducible refine LeO.bind ?_ (fun _ => ?_))
      | exact ih0 _ _ _
      | exact LeO.none _
      | refine LeO.ite ?_ ?_
      | refine LeO.bind ?_ (fun _ => ?_)
theorem impl_spanCode.mono : ∀ a0 a1 a2 k, LeO (impl_spanCode.f k a0 a1 a2) (impl_spanCode.f (k + 1) a0 a1 a2) := by
  intro a0 a1 a2 k
  have ih0 := impl_spanCode.mono_l k
  unfold impl_spanCode.f
  repeat' first
      | (with_reducible exact ih0 _ _ _)
      | (with_reducible exact LeO.refl _)
      | (with_reducible exact LeO.none _)
      | (with_reducible refine LeO.ite ?_ ?_)
      | (with_reducible refine LeO.bind ?_ (fun _ => ?_))
      | exact ih0 _ _ _
      | exact LeO.none _
      | refine LeO.ite ?_ ?_
      | refine LeO.bind ?_ (fun _ => ?_)
set_option maxHeartbeats 8000000 in
set_option maxRecDepth 100000 in
theorem impl_spanCode.calls (k : Nat) (a0 : Bool) (a1 : Int) (a2 : Int) (r : Int) (w : World) (h : impl_spanCode.f k a0 a1 a2 = some r) :
    Calls Try.prog 86 #[.bool a0, .int .i64 a1, .int .i64 a2] w fun e w' => e = .returned (.int .i64 r) ∧ Below w.heap.size w w' := by
  have HB := Aside0.mk (Below.refl w.heap.size w)
  have H : ((impl_isDay.f (([a1, a2] : List Int))).bind fun t247 => (if t247 = true then ((impl_codeOf.f a0 (decide (a1 ≤ a2))).bind fun t248 => (impl_spanCode.j0 k a1 a2 t248)) else ((impl_codeOf.f a0 false).bind fun t249 => (impl_spanCode.j0 k a1 a2 t249)))) = some r := h
  clear h
  have HC4 := Aside0.mk H
  clear H
  go_enter Try.func86, Try.ntmps86
  go_upto_region 1 with (fail)
  go_cut [7] (fun v7 wc => ∃ (kq : Nat) (x7_3 : Int), v7 = .int .i64 x7_3 ∧ Aside0 (impl_spanCode.j0 kq a1 a2 x7_3 = some r) ∧ Aside0 (kq ≤ k) ∧ Aside0 (Below w.heap.size w wc))
  case first =>
    have H := HC4.out
    clear HC4
    obtain ⟨y244, hy244⟩ : ∃ y_ : List Int, y_ = (([a1, a2] : List Int)) := ⟨_, rfl⟩
    replace H : ((impl_isDay.f y244).bind fun t247 => (if t247 = true then ((impl_codeOf.f a0 (decide (a1 ≤ a2))).bind fun t248 => (impl_spanCode.j0 k a1 a2 t248)) else ((impl_codeOf.f a0 false).bind fun t249 => (impl_spanCode.j0 k a1 a2 t249)))) = some r := by first | (rw [hy244]; with_reducible exact H) | (have H2_ := (Option.bind_some _ _).symm.trans H; rw [hy244]; with_reducible exact H2_) | (have H2_ := (Option.bind_some _ _).symm.trans H; with_reducible exact H2_) | with_reducible exact H | (rw [hy244]; exact H) | exact H
    have Ny244 := Aside0.mk hy244
    clear hy244
    replace H := Option.bind_eq_some_iff.mp H
    obtain ⟨t247, A50, H⟩ := H
    replace H : (if t247 = true then ((impl_codeOf.f a0 (decide (a1 ≤ a2))).bind fun t248 => (impl_spanCode.j0 k a1 a2 t248)) else ((impl_codeOf.f a0 false).bind fun t249 => (impl_spanCode.j0 k a1 a2 t249))) = some r := H
    have A5 := Aside0.mk A50
    clear A50
    by_cases c6 : t247 = true
    · subst c6
      have H1 : ((impl_codeOf.f a0 (decide (a1 ≤ a2))).bind fun t248 => (impl_spanCode.j0 k a1 a2 t248)) = some r := by rw [if_pos rfl] at H; exact H
      clear H
      have H := H1
      clear H1
      replace H := Option.bind_eq_some_iff.mp H
      obtain ⟨t248, A70, H⟩ := H
      replace H : (impl_spanCode.j0 k a1 a2 t248) = some r := H
      have A7 := Aside0.mk A70
      clear A70
      have H' := Aside0.mk H
      clear H
      go_wp2_with (first | ((with_reducible refine gate_dst (N := 11) rfl ?_); refine Kd.R_lit (Kd.int .i64) _ 2 ?hg (N := 11) ?hd (xs := ([a1, a2] : List Int)) (inner := [.int .i64 a1, .int .i64 a2]) (ok := fun _ => True) (okp := fun _ => True) ?hr ?hp (fun _ hk => hk) trivial (Below.refl _ _) (Nat.le_refl _) (by simp) ?_; (case hd => rfl); (case hg => rfl); (case hr => first | (go_simp; done) | (go_simp; rfl)); (case hp => exact (Reps.one (show Kd.M (Kd.int .i64) _ _ _ a1 [.int .i64 a1] from rfl) (Reps.one (show Kd.M (Kd.int .i64) _ _ _ a2 [.int .i64 a2] from rfl) (Reps.none _ _)))); intro v245 w8 ho9 hb hg_ hnew_; clear hg_ hnew_; (first | rw [← Ny244.out] at ho9 | (simp only [Int.reduceToNat] at ho9; rw [← Ny244.out] at ho9)); have n0_ := Aside0.mk (Kd.R_lower ho9 (below_size (by repeat (first | (with_reducible first | exact HB.out | apply below_alloc | apply pw_below_drewN | apply below_drew1) | exact HB.out)))); have n1_ := Aside0.mk (below_step (by repeat (first | (with_reducible first | exact HB.out | apply below_alloc | apply pw_below_drewN | apply below_drew1) | exact HB.out)) hb); clear HB; have HO246 := n0_; have HB := n1_; clear n0_ n1_; clear hb ho9; obtain ⟨Ao10, co10, eo10⟩ := Kd.R_slice HO246.out; subst eo10) | ((with_reducible refine gate_callee (f := 79) rfl ?_); refine goesL_ (some 12) rfl rfl Try.func79 (by kernel_rfl) rfl #[.slice Ao10 y244.length co10] rfl (by (try simp only [List.map_toArray, List.map_cons, List.map_nil]); first | done | rfl | (simp only [List.length_drop, List.length_take]; rfl)) ?_; (with_reducible refine (impl_isDay.calls _ _ y244 true _ ?side1 ?side2 A5.out).mono ?_); (case side1 => repeat (first | exact (Kd.R_reads' HO246.out).2.2 | (with_reducible refine Kd.C_alloc ?_ _) | (with_reducible refine Kd.C_drewN ?_ _) | (with_reducible refine Kd.C_drew ?_))); (case side2 => exact (Kd.R_reads' HO246.out).2.1); rintro e w11 ⟨rfl, hb⟩; refine ⟨_, rfl, ?_⟩; have n0_ := Aside0.mk (Kd.R_below (by (with_reducible repeat (first | apply Kd.R_alloc | apply Kd.R_drewN | apply Kd.R_drew)); exact HO246.out) hb); have n1_ := Aside0.mk (below_step (by repeat (first | (with_reducible first | exact HB.out | apply below_alloc | apply pw_below_drewN | apply below_drew1) | exact HB.out)) hb); clear HO246; clear HB; have HO246 := n0_; have HB := n1_; clear n0_ n1_; (try clear hb); (try clear hb2); (try clear hk); (try clear hi)) | ((with_reducible refine gate_callee (f := 67) rfl ?_); refine goesL_ (some 18) rfl rfl Try.func67 (by kernel_rfl) rfl #[.bool a0, .bool (decide (a1 ≤ a2))] rfl (by (try simp only [List.map_toArray, List.map_cons, List.map_nil]); first | done | rfl | (simp only [List.length_drop, List.length_take]; rfl)) ?_; (with_reducible refine (impl_codeOf.calls a0 (decide (a1 ≤ a2)) t248 _ A7.out).mono ?_); rintro e w' ⟨rfl, ⟨nd, rfl⟩⟩; refine ⟨_, rfl, ?_⟩))
      go_meet
      case rel => exact ⟨_, (t248), (by first | rfl | (simp; done) | (simp [*]; done)), H', ⟨by first | omega | exact Nat.le_refl _⟩, ⟨by repeat (first | (with_reducible first | exact HB.out | apply below_alloc | apply pw_below_drewN | apply below_drew1) | exact HB.out)⟩⟩
    · replace c6 := Bool.eq_false_iff.mpr c6
      subst c6
      have H1 : ((impl_codeOf.f a0 false).bind fun t249 => (impl_spanCode.j0 k a1 a2 t249)) = some r := by rw [if_neg (show ¬ (false = true) by decide)] at H; exact H
      clear H
      have H := H1
      clear H1
      replace H := Option.bind_eq_some_iff.mp H
      obtain ⟨t249, A120, H⟩ := H
      replace H : (impl_spanCode.j0 k a1 a2 t249) = some r := H
      have A12 := Aside0.mk A120
      clear A120
      have H' := Aside0.mk H
      clear H
      go_wp2_with (first | ((with_reducible refine gate_dst (N := 11) rfl ?_); refine Kd.R_lit (Kd.int .i64) _ 2 ?hg (N := 11) ?hd (xs := ([a1, a2] : List Int)) (inner := [.int .i64 a1, .int .i64 a2]) (ok := fun _ => True) (okp := fun _ => True) ?hr ?hp (fun _ hk => hk) trivial (Below.refl _ _) (Nat.le_refl _) (by simp) ?_; (case hd => rfl); (case hg => rfl); (case hr => first | (go_simp; done) | (go_simp; rfl)); (case hp => exact (Reps.one (show Kd.M (Kd.int .i64) _ _ _ a1 [.int .i64 a1] from rfl) (Reps.one (show Kd.M (Kd.int .i64) _ _ _ a2 [.int .i64 a2] from rfl) (Reps.none _ _)))); intro v245 w13 ho14 hb hg_ hnew_; clear hg_ hnew_; (first | rw [← Ny244.out] at ho14 | (simp only [Int.reduceToNat] at ho14; rw [← Ny244.out] at ho14)); have n0_ := Aside0.mk (Kd.R_lower ho14 (below_size (by repeat (first | (with_reducible first | exact HB.out | apply below_alloc | apply pw_below_drewN | apply below_drew1) | exact HB.out)))); have n1_ := Aside0.mk (below_step (by repeat (first | (with_reducible first | exact HB.out | apply below_alloc | apply pw_below_drewN | apply below_drew1) | exact HB.out)) hb); clear HB; have HO246 := n0_; have HB := n1_; clear n0_ n1_; clear hb ho14; obtain ⟨Ao15, co15, eo15⟩ := Kd.R_slice HO246.out; subst eo15) | ((with_reducible refine gate_callee (f := 79) rfl ?_); refine goesL_ (some 12) rfl rfl Try.func79 (by kernel_rfl) rfl #[.slice Ao15 y244.length co15] rfl (by (try simp only [List.map_toArray, List.map_cons, List.map_nil]); first | done | rfl | (simp only [List.length_drop, List.length_take]; rfl)) ?_; (with_reducible refine (impl_isDay.calls _ _ y244 false _ ?side1 ?side2 A5.out).mono ?_); (case side1 => repeat (first | exact (Kd.R_reads' HO246.out).2.2 | (with_reducible refine Kd.C_alloc ?_ _) | (with_reducible refine Kd.C_drewN ?_ _) | (with_reducible refine Kd.C_drew ?_))); (case side2 => exact (Kd.R_reads' HO246.out).2.1); rintro e w16 ⟨rfl, hb⟩; refine ⟨_, rfl, ?_⟩; have n0_ := Aside0.mk (Kd.R_below (by (with_reducible repeat (first | apply Kd.R_alloc | apply Kd.R_drewN | apply Kd.R_drew)); exact HO246.out) hb); have n1_ := Aside0.mk (below_step (by repeat (first | (with_reducible first | exact HB.out | apply below_alloc | apply pw_below_drewN | apply below_drew1) | exact HB.out)) hb); clear HO246; clear HB; have HO246 := n0_; have HB := n1_; clear n0_ n1_; (try clear hb); (try clear hb2); (try clear hk); (try clear hi)) | ((with_reducible refine gate_callee (f := 67) rfl ?_); refine goesL_ (some 18) rfl rfl Try.func67 (by kernel_rfl) rfl #[.bool a0, .bool false] rfl (by (try simp only [List.map_toArray, List.map_cons, List.map_nil]); first | done | rfl | (simp only [List.length_drop, List.length_take]; rfl)) ?_; (with_reducible refine (impl_codeOf.calls a0 false t249 _ A12.out).mono ?_); rintro e w' ⟨rfl, ⟨nd, rfl⟩⟩; refine ⟨_, rfl, ?_⟩))
      go_meet
      case rel => exact ⟨_, (t249), (by first | rfl | (simp; done) | (simp [*]; done)), H', ⟨by first | omega | exact Nat.le_refl _⟩, ⟨by repeat (first | (with_reducible first | exact HB.out | apply below_alloc | apply pw_below_drewN | apply below_drew1) | exact HB.out)⟩⟩
  case rest =>
    clear HC4
    try clear p2
    try clear c6
    try clear c7
    try clear c8
    obtain ⟨kq, x7_3, rfl, HA, HJ3, HB⟩ := hcut
    cases kq with
    | zero => exact absurd HA.out (by simp [impl_spanCode.j0])
    | succ kj3 =>
      have H := HA.out
      clear HA
      simp only [impl_spanCode.j0] at H
      by_cases c17 : x7_3 = 0
      · rw [if_pos c17] at H
        have c17b0 : (x7_3 == 0) = true := beq_iff_eq.mpr c17
        have c17b1 : (x7_3 != 0) = false := bne_eq_false_iff_eq.mpr c17
        clear c17
        by_cases c18 : (wrap64 ((wrap64 (a2 - a1)) + 1)) > 400
        · rw [if_pos c18] at H
          have c18b0 : decide (400 < (wrap64 ((wrap64 (a2 - a1)) + 1))) = true := decide_eq_true c18
          clear c18
          obtain rfl := Option.some.inj H
          go_wp2
          go_ret
          exact ⟨by first | rfl | (simp [errW_none, errW_some] <;> rfl) | (simp [*, errW_none, errW_some] <;> rfl), by repeat (first | (with_reducible first | exact HB.out | apply below_alloc | apply pw_below_drewN | apply below_drew1) | exact HB.out)⟩
        · rw [if_neg c18] at H
          have c18b0 : decide (400 < (wrap64 ((wrap64 (a2 - a1)) + 1))) = false := decide_eq_false c18
          clear c18
          obtain rfl := Option.some.inj H
          go_wp2
          go_ret
          exact ⟨by first | rfl | (simp [errW_none, errW_some] <;> rfl) | (simp [*, errW_none, errW_some] <;> rfl), by repeat (first | (with_reducible first | exact HB.out | apply below_alloc | apply pw_below_drewN | apply below_drew1) | exact HB.out)⟩
      · rw [if_neg c17] at H
        have c17b0 : (x7_3 == 0) = false := beq_eq_false_iff_ne.mpr c17
        have c17b1 : (x7_3 != 0) = true := bne_iff_ne.mpr c17
        obtain rfl := Option.some.inj H
        go_wp2
        go_ret
        exact ⟨by first | rfl | (simp [errW_none, errW_some] <;> rfl) | (simp [*, errW_none, errW_some] <;> rfl), by repeat (first | (with_reducible first | exact HB.out | apply below_alloc | apply pw_below_drewN | apply below_drew1) | exact HB.out)⟩
end Go.Proofs.Ytmheflciiodhdaa.P
