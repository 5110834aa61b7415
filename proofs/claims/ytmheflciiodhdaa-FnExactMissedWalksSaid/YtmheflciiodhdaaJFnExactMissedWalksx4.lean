/- The program's MissedWalks tells the same walks and code as the reference's, leaves its arguments as they were, and its answer is its own, for all arguments.
   Conditions: none beyond the given statement's own. -/
import Derived.Test.YtmheflciiodhdaaJFnExactMissedWalksx3
import Derived.Test.YtmheflciiodhdaaJFnExactMissedWalksx2
import Derived.Test.YtmheflciiodhdaaJFnExactMissedWalksx1
import Derived.Test.YtmheflciiodhdaaRows
import Derived.WalkKit
import Derived.ProofKit
import Derived.OpenShut
import Derived.ShutString
import Derived.ChangeOld
import Derived.Below
import Derived.SizedLaws
/- What is asked of rows and walkers, and what rows are on days. -/
namespace Go.Proofs.Ytmheflciiodhdaa.P
open Go.RowKit Go.Proofs.YtmheflciiodhdaaW.PrintWords Go.Proofs.YtmheflciiodhdaaW.PrintLast Go.Proofs.YtmheflciiodhdaaW.PrintMore
theorem l00In_inR (a lo hi : Int) : spec_l00In.f a lo hi = some (inR lo hi a) := by
  unfold spec_l00In.f inR
  by_cases h : a ≥ lo
  · rw [if_pos h]; simp [show lo ≤ a from h]
  · rw [if_neg h]; simp [show ¬ lo ≤ a from h]
theorem inR_iff {lo hi a : Int} : inR lo hi a = true ↔ lo ≤ a ∧ a ≤ hi := by simp [inR]
theorem specOk_ev (l : List Int) (hn : l.length ≤ 1048576) : Ev (fun k => spec_l05Ok.f k l) (validRow l) := by
  have key : ∀ (d i : Nat), i + d = l.length → Ev (fun k => spec_l05Ok.l0 k l (i : Int)) (inR 1 60 (l.length : Int) && !((l.drop i).any fun x => decide (7 < x))) := by
    intro d
    induction d with
    | zero =>
      intro i hi
      refine Ev.one (fun k => ?_)
      simp only [spec_l05Ok.l0]
      rw [if_neg (by omega), List.drop_eq_nil_of_le (by omega), l00In_inR]; simp
    | succ d ih =>
      intro i hi
      have hlt : i < l.length := by omega
      have e := List.drop_eq_getElem_cons hlt
      by_cases h : rd l (i : Int) > 7
      · refine Ev.one (fun k => ?_)
        simp only [spec_l05Ok.l0]
        rw [if_pos (by omega), if_pos (by omega), if_pos h, e]
        rw [rd_lt hlt] at h
        simp only [List.any_cons, decide_eq_true (show 7 < l[i] from h), Bool.true_or, Bool.not_true, Bool.and_false]
      · refine Ev.step (f := fun k => spec_l05Ok.l0 k l ((i + 1 : Nat) : Int)) (fun k => ?_) ?_
        · simp only [spec_l05Ok.l0]
          rw [if_pos (by omega), if_pos (by omega), if_neg h, w64 (by omega) (by omega)]; simp
        · have := ih (i + 1) (by omega)
          rw [e]
          rw [rd_lt hlt] at h
          simpa only [List.any_cons, decide_eq_false (show ¬ 7 < l[i] from h), Bool.false_or] using this
  have := key l.length 0 (by omega)
  simpa [validRow, spec_l05Ok.f] using this
/-- A walker's numbers are words of 16 and of 8 bits. -/
structure WT (x : S38) : Prop where
  h0 : -32768 ≤ x.f0 ∧ x.f0 ≤ 32767
  h1 : -32768 ≤ x.f1 ∧ x.f1 ≤ 32767
  h2 : -32768 ≤ x.f2 ∧ x.f2 ≤ 32767
  h3 : -32768 ≤ x.f3 ∧ x.f3 ≤ 32767
  h4 : -32768 ≤ x.f4 ∧ x.f4 ≤ 32767
  h5 : -128 ≤ x.f5 ∧ x.f5 ≤ 127
theorem specWalker_ev (b : Int) (hb : 1 ≤ b) (hb1 : b ≤ 60) (x : S38) : Ev (fun k => spec_l05Walker.f k b x.f0 x.f1 x.f2 x.f3 x.f4 x.f5) (!(badW b x)) := by
  refine Ev.one (fun k => ?_)
  unfold spec_l05Walker.f badW
  simp only [l00In_inR, Option.bind_some, spec_l05Walker.j0]
  rw [w64 (x := b - 1) (by omega) (by omega)]
  cases inR 0 10000 (wrap64 x.f0) <;> cases inR 1 100 (wrap64 x.f1) <;> cases inR 0 (b - 1) (wrap64 x.f2) <;> cases inR 0 60 (wrap64 x.f3) <;> cases inR 1 60 (wrap64 x.f4) <;> cases inR (-7) 7 (wrap64 x.f5) <;> simp
theorem specWalkers_ev (b : Int) (l : List S38) (hn : l.length ≤ 1048576) : Ev (fun k => spec_l05Walkers.f k b l) (validWalkers b l) := by
  unfold validWalkers
  by_cases hb : inR 1 60 b = true
  case neg =>
    refine Ev.one (fun k => ?_)
    simp only [spec_l05Walkers.f, l00In_inR, Option.bind_some]
    rw [if_neg hb]
    simp [spec_l05Walkers.j0, Bool.eq_false_iff.mpr hb]
  have hbb := inR_iff.mp hb
  by_cases h8 : (l.length : Int) ≤ 8
  case neg =>
    refine Ev.one (fun k => ?_)
    simp only [spec_l05Walkers.f, l00In_inR, Option.bind_some]
    rw [if_pos hb]
    simp [spec_l05Walkers.j0, show (8 : Int) < l.length by omega, h8]
  have key : ∀ (d i : Nat), i + d = l.length → Ev (fun k => spec_l05Walkers.l0 k b l (i : Int)) (!((l.drop i).any (badW b))) := by
    intro d
    induction d with
    | zero =>
      intro i hi
      refine Ev.one (fun k => ?_)
      simp only [spec_l05Walkers.l0]
      rw [if_neg (by omega), List.drop_eq_nil_of_le (by omega)]; simp
    | succ d ih =>
      intro i hi
      have hlt : i < l.length := by omega
      have e := drop_rdW hlt
      refine Ev.step (f := fun k => (spec_l05Walker.f k b (rd_T38 l i).f0 (rd_T38 l i).f1 (rd_T38 l i).f2 (rd_T38 l i).f3 (rd_T38 l i).f4 (rd_T38 l i).f5).bind fun t => if t = true then spec_l05Walkers.l0 k b l ((i + 1 : Nat) : Int) else some false) (fun k => ?_) ?_
      · simp only [spec_l05Walkers.l0]
        rw [if_pos (by omega), if_pos (by omega), w64 (by omega) (by omega)]; simp
      · refine Ev.bind (specWalker_ev b (by omega) (by omega) _) ?_
        rw [e]
        by_cases hbad : badW b (rd_T38 l i) = true
        · simpa [hbad] using Ev.pure false
        · simpa [Bool.eq_false_iff.mpr hbad] using ih (i + 1) (by omega)
  refine Ev.congr (f := fun k => spec_l05Walkers.j0 k b l false) (fun k => ?_) (Ev.step (f := fun k => spec_l05Walkers.l0 k b l ((0 : Nat) : Int)) (fun k => ?_) ?_)
  · simp only [spec_l05Walkers.f, l00In_inR, Option.bind_some]
    rw [if_pos hb]
    simp [show ¬ ((8 : Int) < l.length) by omega]
  · simp [spec_l05Walkers.j0]
  · have := key l.length 0 (by omega)
    simpa [hb, h8] using this
theorem WOk_of_valid {b : Int} {l : List S38} (ht : ∀ x ∈ l, WT x) (h : validWalkers b l = true) : (1 ≤ b ∧ b ≤ 60) ∧ l.length ≤ 8 ∧ ∀ x ∈ l, WOk b x := by
  simp only [validWalkers, Bool.and_eq_true, decide_eq_true_eq, Bool.not_eq_true', List.any_eq_false] at h
  obtain ⟨⟨h1, h2⟩, h3⟩ := h
  refine ⟨inR_iff.mp h1, by omega, fun x hx => ?_⟩
  have hb := h3 x hx
  obtain ⟨t0, t1, t2, t3, t4, t5⟩ := ht x hx
  simp only [badW, Bool.or_eq_true, Bool.not_eq_true', not_or, Bool.not_eq_false] at hb
  obtain ⟨⟨⟨⟨⟨b0, b1⟩, b2⟩, b3⟩, b4⟩, b5⟩ := hb
  rw [w64 (by omega) (by omega)] at b0 b1 b2 b3 b4 b5
  exact ⟨inR_iff.mp b0, inR_iff.mp b1, inR_iff.mp b2, inR_iff.mp b3, inR_iff.mp b4, inR_iff.mp b5⟩
theorem row_of_valid {l : List Int} (ht : ∀ x ∈ l, 0 ≤ x ∧ x ≤ 255) (h : validRow l = true) : 1 ≤ l.length ∧ l.length ≤ 60 ∧ ∀ x ∈ l, 0 ≤ x ∧ x ≤ 7 := by
  simp only [validRow, Bool.and_eq_true, Bool.not_eq_true', List.any_eq_false, decide_eq_true_eq] at h
  have := inR_iff.mp h.1
  exact ⟨by omega, by omega, fun x hx => ⟨(ht x hx).1, by have := h.2 x hx; omega⟩⟩
/-- Rows that are asked for: code 1, 2 or 0. -/
theorem specRow_ev (l : List Int) (ws : List S38) (q : Bool) (hn : l.length ≤ 1048576) (hw : ws.length ≤ 1048576) : Ev (fun k => spec_l05Row.f k l ws q) (codeB (rowOkB l ws) q) := by
  unfold spec_l05Row.f
  refine Ev.bind (specOk_ev l hn) ?_
  unfold rowOkB
  cases hv : validRow l
  · exact Ev.some (fun k => by simp [codeB])
  · have hl : Ev (fun k => spec_l05Asked.f k (l.length : Int) ws q) (codeB (validWalkers l.length ws) q) := by
      unfold spec_l05Asked.f
      refine Ev.bind (specWalkers_ev _ ws hw) (Ev.some (fun k => ?_))
      cases validWalkers l.length ws <;> cases q <;> simp [codeB]
    have := Ev.bind hl (f := fun _ t => some t) (Ev.pure _)
    simpa using this
def fromB (a b : Int) : Bool := inR 0 10000 a && inR 0 10000 b && decide (a ≤ b)
theorem l05From_eq (a b : Int) : spec_l05From.f a b = some (fromB a b) := by
  simp only [spec_l05From.f, spec_l05Day.f, l00In_inR, Option.bind_some, fromB]
  cases inR 0 10000 a <;> cases inR 0 10000 b <;> simp
def spanC (ok : Bool) (a b : Int) : Int := if codeB ok (fromB a b) = 0 then (if b - a + 1 > 400 then 3 else 0) else codeB ok (fromB a b)
theorem codeB_zero {a b : Bool} : codeB a b = 0 ↔ a = true ∧ b = true := by cases a <;> cases b <;> simp [codeB]
theorem fromB_iff {a b : Int} : fromB a b = true ↔ 0 ≤ a ∧ b ≤ 10000 ∧ a ≤ b := by simp [fromB, inR]; omega
theorem l05Span_eq (ok : Bool) (a b : Int) : spec_l05Span.f (codeB ok (fromB a b)) a b = some (spanC ok a b) := by
  unfold spec_l05Span.f spanC
  by_cases h : codeB ok (fromB a b) = 0
  · have := fromB_iff.mp (codeB_zero.mp h).2
    rw [if_pos h, if_pos h, w64 (x := b - a) (by omega) (by omega), w64 (by omega) (by omega)]
    split <;> rfl
  · rw [if_neg h, if_neg h]
theorem spanCode_ev (ok : Bool) (a b : Int) : Ev (fun k => impl_spanCode.f k ok a b) (spanC ok a b) := by
  refine Ev.one (fun k => ?_)
  have e : codeB ok (fromB a b) = if ([a, b] : List Int).all (inR 0 10000) = true then codeB ok (decide (a ≤ b)) else codeB ok false := by
    simp only [fromB, List.all_cons, List.all_nil, Bool.and_true]
    cases inR 0 10000 a <;> cases inR 0 10000 b <;> simp
  have f : ∀ c, c = codeB ok (fromB a b) → impl_spanCode.j0 (k + 1) a b c = some (spanC ok a b) := by
    rintro c rfl
    simp only [impl_spanCode.j0, spanC]
    by_cases h : codeB ok (fromB a b) = 0
    · have := fromB_iff.mp (codeB_zero.mp h).2
      rw [if_pos h, if_pos h, w64 (x := b - a) (by omega) (by omega), w64 (by omega) (by omega)]
      split <;> rfl
    · rw [if_neg h, if_neg h]
  simp only [impl_spanCode.f, isDay_all, Option.bind_some, codeOf_codeB]
  split
  · next h => exact f _ (by rw [e, if_pos h])
  · next h => exact f _ (by rw [e, if_neg h])
/-- How often a walker has come until a day, and whether on it. -/
def untilZ (x : S38) (d : Int) : Int := if d < x.f0 then 0 else (d - x.f0) / x.f1 + 1
def onB (x : S38) (d : Int) : Bool := decide (x.f0 ≤ d) && decide ((d - x.f0) % x.f1 = 0)
def onZ (x : S38) (d : Int) : Int := if onB x d = true then 1 else 0
theorem div_bd {e m : Int} (he : 0 ≤ e) (hm : 1 ≤ m) : 0 ≤ e / m ∧ e / m ≤ e := ⟨Int.ediv_nonneg he (by omega), Int.ediv_le_self _ he⟩
theorem untilO_eq {b : Int} {x : S38} (hx : WOk b x) {d : Int} (h0 : 0 ≤ d) (h1 : d ≤ 10000) : untilO x d = some (untilZ x d) := by
  obtain ⟨⟨a0, b0⟩, ⟨a1, b1⟩, -, -, -, -⟩ := hx
  unfold untilO impl_Walker_until.f untilZ
  rw [w64 (x := x.f0) (by omega) (by omega)]
  by_cases h : d < x.f0
  · rw [if_pos h, if_pos h]
  · have := div_bd (show 0 ≤ d - x.f0 by omega) a1
    rw [if_neg h, if_neg h, w64 (x := x.f1) (by omega) (by omega), if_neg (by omega), w64 (x := d - x.f0) (by omega) (by omega), Int.tdiv_eq_ediv_of_nonneg (by omega), w64 (x := (d - x.f0) / x.f1) (by omega) (by omega), w64 (by omega) (by omega)]
theorem specUntil_eq {b : Int} {x : S38} (hx : WOk b x) {d : Int} (h0 : 0 ≤ d) (h1 : d ≤ 10000) : spec_l05Until.f x.f0 x.f1 x.f2 x.f3 x.f4 x.f5 d = some (untilZ x d) := by
  obtain ⟨⟨a0, b0⟩, ⟨a1, b1⟩, -, -, -, -⟩ := hx
  unfold spec_l05Until.f untilZ
  rw [w64 (x := x.f0) (by omega) (by omega), w64 (x := d - x.f0) (by omega) (by omega)]
  by_cases h : d < x.f0
  · rw [if_pos (by omega), if_pos h]
  · have := div_bd (show 0 ≤ d - x.f0 by omega) a1
    rw [if_neg (by omega), if_neg h, w64 (x := x.f1) (by omega) (by omega), if_neg (by omega), Int.tdiv_eq_ediv_of_nonneg (by omega), w64 (x := (d - x.f0) / x.f1) (by omega) (by omega), w64 (by omega) (by omega)]
theorem specOn_eq {b : Int} {x : S38} (hx : WOk b x) {d : Int} (h0 : 0 ≤ d) (h1 : d ≤ 10000) : spec_l05On.f x.f0 x.f1 x.f2 x.f3 x.f4 x.f5 d = some (onB x d) := by
  obtain ⟨⟨a0, b0⟩, ⟨a1, b1⟩, -, -, -, -⟩ := hx
  unfold spec_l05On.f onB
  rw [w64 (x := x.f0) (by omega) (by omega), w64 (x := d - x.f0) (by omega) (by omega), w64 (x := x.f1) (by omega) (by omega)]
  by_cases h : x.f0 ≤ d
  · rw [if_pos (by omega), if_neg (by omega), tmod_nn (by omega)]; simp [h]; rfl
  · rw [if_neg (by omega)]; simp [h]
theorem untilZ_bd {b : Int} {x : S38} (hx : WOk b x) {d : Int} (h0 : 0 ≤ d) (h1 : d ≤ 10000) : 0 ≤ untilZ x d ∧ untilZ x d ≤ 10001 := by
  have a0 := hx.h0
  have a1 := hx.h1
  unfold untilZ
  split
  · omega
  · have := div_bd (show 0 ≤ d - x.f0 by omega) a1.1; omega
theorem div_succ {e m : Int} (hm : 1 ≤ m) : (e + 1) / m = e / m + (if (e + 1) % m = 0 then 1 else 0) := by
  have h1 := Int.emod_add_mul_ediv e m
  have h2 := Int.emod_nonneg e (show m ≠ 0 by omega)
  have h3 := Int.emod_lt_of_pos e (show 0 < m by omega)
  have e1 : e + 1 = (e % m + 1) + m * (e / m) := by omega
  have e2 : (e + 1) / m = (e % m + 1) / m + e / m := by conv => lhs; rw [e1]
                                                        rw [Int.add_mul_ediv_left _ _ (by omega)]
  have e3 : (e + 1) % m = (e % m + 1) % m := by conv => lhs; rw [e1]
                                                rw [Int.add_mul_emod_self_left]
  rw [e2, e3]
  by_cases h : e % m + 1 = m
  · rw [h, Int.ediv_self (by omega), Int.emod_self]; simp; omega
  · rw [Int.ediv_eq_zero_of_lt (by omega) (by omega), Int.emod_eq_of_lt (by omega) (by omega), if_neg (by omega)]; omega
theorem until_succ {b : Int} {x : S38} (hx : WOk b x) (d : Int) : untilZ x (d + 1) = untilZ x d + onZ x (d + 1) := by
  have a1 := hx.h1
  unfold untilZ onZ onB
  by_cases h : d + 1 < x.f0
  · rw [if_pos h, if_pos (by omega), if_neg (by simp; omega)]; rfl
  · by_cases h2 : d < x.f0
    · have : d + 1 - x.f0 = 0 := by omega
      rw [if_neg h, if_pos h2, this]; simp; omega
    · rw [if_neg h, if_neg h2, show d + 1 - x.f0 = (d - x.f0) + 1 by omega, div_succ a1.1]
      have : x.f0 ≤ d + 1 := by omega
      simp [this]; omega
/-- The reference's row after all walks until a day, and after one day more. -/
theorem row_step0 (x : S38) (s : List Int) (hs : ∀ y ∈ s, 0 ≤ y ∧ y ≤ 7) : rowBy (fun _ => 0) [x] s = s := by
  refine ext_rd (rowBy_len _ _ _) (fun i hi => ?_)
  rw [rowBy_len] at hi
  have := hs _ (List.getElem_mem hi)
  rw [rowBy_rd hi, sumAt, sumAt, rd_lt hi]; omega
theorem specBehind_ev {r : List Int} {ws : List S38} {d : Int} (hb : 1 ≤ r.length) (hb1 : r.length ≤ 60) (hr : ∀ y ∈ r, 0 ≤ y ∧ y ≤ 7) (hw : ∀ x ∈ ws, WOk r.length x) (h8 : ws.length ≤ 8) (h0 : 0 ≤ d) (h1 : d ≤ 10000) :
    Ev (fun k => spec_l05Behind.f k r ws d) (rowBy (fun x => onZ x d) ws r) := by
  have key := Ev.loop (fun k (s : List Int) i => spec_l05Behind.l0 k ws d s i) ws.length (fun i s => s.length = r.length ∧ (∀ y ∈ s, 0 ≤ y ∧ y ≤ 7) ∧ rowBy (fun x => onZ x d) (ws.drop i) s = rowBy (fun x => onZ x d) ws r) (rowBy (fun x => onZ x d) ws r) ?_ ?_ ws.length 0 r (by omega) (by simpa using hr)
  · refine Ev.congr (fun k => ?_) key
    simp only [spec_l05Behind.f, Option.bind_some]
    rw [if_pos (by simp; omega)]; simp
  · rintro i s hi ⟨hl, hs, he⟩
    have hmem : rd_T38 ws i ∈ ws := by simp [rd_T38, hi]
    have hx := hw _ hmem
    rw [drop_rdW hi] at he
    refine ⟨rowBy (fun _ => onZ (rd_T38 ws i) d) [rd_T38 ws i] s, ⟨by rw [rowBy_len]; exact hl, rowBy_bd _ _ _, by rw [rowBy_cons (fun x => onZ x d)]; exact he⟩, fun h => ?_⟩
    by_cases hon : onB (rd_T38 ws i) d = true
    · have e1 : onZ (rd_T38 ws i) d = 1 := by simp [onZ, hon]
      rw [e1] at h
      refine Ev.step (f := fun k => (spec_l05Turned.f k s (rd_T38 ws i).f0 (rd_T38 ws i).f1 (rd_T38 ws i).f2 (rd_T38 ws i).f3 (rd_T38 ws i).f4 (rd_T38 ws i).f5 1).bind fun t => spec_l05Behind.l0 k ws d t ((i : Int) + 1)) (fun k => ?_) (Ev.bind (specTurned_ev (by omega) (by omega) (fun y hy => by have := hs y hy; omega) (by rw [hl]; exact hx)) h)
      simp only [spec_l05Behind.l0]
      rw [if_pos (by omega), if_pos (by omega), specOn_eq hx h0 h1, w64 (by omega) (by omega)]; simp [hon]
    · have e1 : onZ (rd_T38 ws i) d = 0 := by simp [onZ, hon]
      rw [e1, row_step0 _ _ hs] at h
      refine Ev.step (fun k => ?_) h
      simp only [spec_l05Behind.l0]
      rw [if_pos (by omega), if_pos (by omega), specOn_eq hx h0 h1, w64 (by omega) (by omega)]; simp [hon]
  · rintro s ⟨hl, hs, he⟩
    rw [List.drop_length, rowBy_nil _ _ hs] at he
    refine Ev.one (fun k => ?_)
    simp only [spec_l05Behind.l0]
    rw [if_neg (by omega), he]
theorem specWhole_ev {r : List Int} {ws : List S38} {d : Int} (hb : 1 ≤ r.length) (hb1 : r.length ≤ 60) (hr : ∀ y ∈ r, 0 ≤ y ∧ y ≤ 7) (hw : ∀ x ∈ ws, WOk r.length x) (h8 : ws.length ≤ 8) (h0 : 0 ≤ d) (h1 : d ≤ 10000) :
    Ev (fun k => spec_l05Whole.f k r ws d) (rowBy (fun x => untilZ x d) ws r) := by
  have key := Ev.loop (fun k (s : List Int) i => spec_l05Whole.l0 k ws d s i) ws.length (fun i s => s.length = r.length ∧ (∀ y ∈ s, 0 ≤ y ∧ y ≤ 7) ∧ rowBy (fun x => untilZ x d) (ws.drop i) s = rowBy (fun x => untilZ x d) ws r) (rowBy (fun x => untilZ x d) ws r) ?_ ?_ ws.length 0 r (by omega) (by simpa using hr)
  · refine Ev.congr (fun k => ?_) key
    simp only [spec_l05Whole.f, Option.bind_some]
    rw [if_pos (by simp; omega)]; simp
  · rintro i s hi ⟨hl, hs, he⟩
    have hmem : rd_T38 ws i ∈ ws := by simp [rd_T38, hi]
    have hx := hw _ hmem
    rw [drop_rdW hi] at he
    refine ⟨rowBy (fun _ => untilZ (rd_T38 ws i) d) [rd_T38 ws i] s, ⟨by rw [rowBy_len]; exact hl, rowBy_bd _ _ _, by rw [rowBy_cons (fun x => untilZ x d)]; exact he⟩, fun h => ?_⟩
    refine Ev.step (f := fun k => (spec_l05Turned.f k s (rd_T38 ws i).f0 (rd_T38 ws i).f1 (rd_T38 ws i).f2 (rd_T38 ws i).f3 (rd_T38 ws i).f4 (rd_T38 ws i).f5 (untilZ (rd_T38 ws i) d)).bind fun t => spec_l05Whole.l0 k ws d t ((i : Int) + 1)) (fun k => ?_) (Ev.bind (specTurned_ev (by omega) (by omega) (fun y hy => by have := hs y hy; omega) (by rw [hl]; exact hx)) h)
    simp only [spec_l05Whole.l0]
    rw [if_pos (by omega), if_pos (by omega), specUntil_eq hx h0 h1, w64 (by omega) (by omega)]; simp
  · rintro s ⟨hl, hs, he⟩
    rw [List.drop_length, rowBy_nil _ _ hs] at he
    refine Ev.one (fun k => ?_)
    simp only [spec_l05Whole.l0]
    rw [if_neg (by omega), he]
/-- The program's row on a day. -/
theorem implRowOn_ev {r : List Int} {ws : List S38} {d : Int} (hb : 1 ≤ r.length) (hb1 : r.length ≤ 60) (hr : ∀ y ∈ r, 0 ≤ y ∧ y ≤ 255) (hw : ∀ x ∈ ws, WOk r.length x) (h8 : ws.length ≤ 8) (h0 : 0 ≤ d) (h1 : d ≤ 10000) :
    Ev (fun k => impl_rowOn.f k r ws d) (rowBy (fun x => untilZ x d) ws r) := by
  have hu : ∀ x ∈ ws, untilT x d = untilZ x d := fun x hx => by unfold untilT; rw [untilO_eq (hw x hx) h0 h1]; rfl
  rw [← rowBy_cong (fun x => untilT x d) (fun x => untilZ x d) ws r hu]
  refine Ev.congr (fun k => ?_) (walked_ev hb hb1 hr (fun x => untilT x d) ws h8 hw (fun x hx => by
    have := untilZ_bd (hw x hx) h0 h1; simp only [hu x hx]; omega))
  unfold impl_rowOn.f
  rw [if_pos (List.all_eq_true.mpr fun x hx => by rw [untilO_eq (hw x hx) h0 h1]; rfl)]
end Go.Proofs.Ytmheflciiodhdaa.P
/- MissedWalks: the program's list of walks that may have been missed, and the reference's, are the same. -/
namespace Go.Proofs.Ytmheflciiodhdaa.P
open Go.RowKit Go.Proofs.YtmheflciiodhdaaW.PrintWords Go.Proofs.YtmheflciiodhdaaW.PrintLast Go.Proofs.YtmheflciiodhdaaW.PrintMore
set_option linter.unusedVariables false
theorem w8 {x : Int} (h0 : -128 ≤ x) (h1 : x ≤ 127) : IntKind.i8.wrap x = x := by
  simp [IntKind.wrap, IntKind.signed, IntKind.bits]
  omega
theorem eqInt64A2S_ev (xs : List S40) (hn : xs.length ≤ 1048576) : Ev (fun k => laws_eqInt64A2S.f k xs xs) true := by
  have key := Ev.loop (fun k (_ : Unit) i => laws_eqInt64A2S.l0 k xs xs i) xs.length (fun _ _ => True) true ?_ ?_ xs.length 0 () (by omega) trivial
  · refine Ev.congr (fun k => ?_) key
    unfold laws_eqInt64A2S.f
    rw [if_pos rfl]; simp
  · intro i s hi _
    refine ⟨(), trivial, fun h => Ev.step (fun k => ?_) h⟩
    simp only [laws_eqInt64A2S.l0, laws_eqInt64A2.f]
    rw [if_pos (by omega), if_pos (by omega), if_pos (by omega), w64 (by omega) (by omega)]
    simp
  · exact fun _ _ => Ev.one (fun k => by simp only [laws_eqInt64A2S.l0]; rw [if_neg (by omega)])
def pairsFrom (a : Int) : Nat → List S40
  | 0 => []
  | n + 1 => ⟨a, a + 1⟩ :: pairsFrom (a + 2) n
theorem pairsFrom_len : ∀ (n : Nat) (a : Int), (pairsFrom a n).length = n
  | 0, _ => rfl
  | n + 1, a => by simp [pairsFrom, pairsFrom_len n]
theorem rd_pairsFrom : ∀ (n : Nat) (a : Int) (i : Nat), i < n → rd_T40 (pairsFrom a n) i = ⟨a + 2 * i, a + 2 * i + 1⟩
  | n + 1, a, 0, _ => by simp [pairsFrom, rd_T40]
  | n + 1, a, i + 1, h => by
    have := rd_pairsFrom n (a + 2) i (by omega)
    simp [rd_T40, pairsFrom] at this ⊢
    rw [this]
    simp; omega
theorem markInt64A2S_ev (xs : List S40) (hn : xs.length ≤ 1048576) : Ev (fun k => laws_markInt64A2S.f k xs 1) (1 + 2 * (xs.length : Int), pairsFrom 1 xs.length) := by
  have key := Ev.loop (fun k (s : List S40 × Int) i => laws_markInt64A2S.l0 k s.1 s.2 i) xs.length (fun i s => s.1.length = xs.length ∧ s.2 = 1 + 2 * i ∧ s.1.take i = (pairsFrom 1 xs.length).take i) (1 + 2 * (xs.length : Int), pairsFrom 1 xs.length) ?_ ?_ xs.length 0 (xs, 1) (by omega) (by simp)
  · exact Ev.congr (fun k => by simp [laws_markInt64A2S.f]) key
  · rintro i ⟨s, a⟩ hi ⟨hl, ha, ht⟩
    simp only at hl ha ht
    refine ⟨(s.set i ⟨a, a + 1⟩, 1 + 2 * ((i + 1 : Nat) : Int)), ⟨by simpa using hl, rfl, ?_⟩, fun h => Ev.step (fun k => ?_) h⟩
    · have h1 := rd_pairsFrom xs.length 1 i hi
      rw [← ha] at h1
      rw [List.take_succ_eq_append_getElem (by simpa [hl] using hi), List.take_succ_eq_append_getElem (by rw [pairsFrom_len]; exact hi), List.take_set_of_le (by omega), ht]
      simp [rd_T40, pairsFrom_len, hi] at h1
      simp [h1]
    · simp only [laws_markInt64A2S.l0]
      rw [if_pos (by omega), if_pos (by omega), w64 (x := a + 1) (by omega) (by omega), w64 (by omega) (by omega), w64 (by omega) (by omega), show a + 1 + 1 = 1 + 2 * ((i + 1 : Nat) : Int) by omega]; simp
  · rintro ⟨s, a⟩ ⟨hl, ha, ht⟩
    simp only at hl ha ht
    obtain rfl := eq_of_take (a := s) (b := pairsFrom 1 xs.length) (by rw [pairsFrom_len]; exact hl) (by rw [pairsFrom_len]; exact ht)
    exact Ev.one (fun k => by simp only [laws_markInt64A2S.l0]; rw [if_neg (by rw [pairsFrom_len]; omega), ha])
theorem heldInt64A2S_ev (n : Nat) (hn : n ≤ 1048576) : Ev (fun k => laws_heldInt64A2S.f k (pairsFrom 1 n) 1) (1 + 2 * (n : Int)) := by
  have key := Ev.loop (fun k (a : Int) i => laws_heldInt64A2S.l0 k (pairsFrom 1 n) a i) n (fun i a => a = 1 + 2 * i) (1 + 2 * (n : Int)) ?_ ?_ n 0 1 (by omega) (by simp)
  · exact Ev.congr (fun k => by simp [laws_heldInt64A2S.f]) key
  · rintro i a hi rfl
    refine ⟨_, rfl, fun h => Ev.step (fun k => ?_) h⟩
    simp only [laws_heldInt64A2S.l0]
    rw [w64 (x := 1 + 2 * (i : Int) + 1) (by omega) (by omega), w64 (x := (i : Int) + 1) (by omega) (by omega), w64 (x := 1 + 2 * (i : Int) + 1 + 1) (by omega) (by omega)]
    rw [if_pos (by rw [pairsFrom_len]; omega), if_pos (by omega), rd_pairsFrom _ _ _ hi, if_pos rfl, if_pos rfl, show 1 + 2 * (i : Int) + 1 + 1 = 1 + 2 * ((i + 1 : Nat) : Int) by omega]
  · rintro a rfl
    exact Ev.one (fun k => by simp only [laws_heldInt64A2S.l0]; rw [if_neg (by rw [pairsFrom_len]; omega)])
/-- Two rows are compared. -/
theorem all_eq_of_take {a b : List Int} (hl : a.length = b.length) {i : Nat} (hi : i < a.length) (h : a.take i = b.take i) (he : rd a i = rd b i) : a.take (i + 1) = b.take (i + 1) := by
  rw [List.take_succ_eq_append_getElem hi, List.take_succ_eq_append_getElem (by omega : i < b.length), h]
  rw [rd_lt hi, rd_lt (by omega : i < b.length)] at he
  rw [he]
theorem implEqual_ev (a b : List Int) (hn : a.length ≤ 1048576) : Ev (fun k => impl_Row_uint8_73.f k a b) (decide (a = b)) := by
  by_cases hl : a.length = b.length
  case neg =>
    refine Ev.some (fun k => ?_)
    unfold impl_Row_uint8_73.f
    rw [if_neg (by omega), decide_eq_false (fun h => hl (by rw [h]))]
  have key : ∀ (d i : Nat), i + d = a.length → a.take i = b.take i → Ev (fun k => impl_Row_uint8_73.l0 k a b (a.length : Int) (i : Int)) (decide (a = b)) := by
    intro d
    induction d with
    | zero =>
      intro i hi ht
      obtain rfl : i = a.length := by omega
      obtain rfl : a = b := by rw [List.take_length, hl, List.take_length] at ht; exact ht
      refine Ev.one (fun k => ?_)
      simp only [impl_Row_uint8_73.l0]
      rw [if_neg (by omega)]; simp
    | succ d ih =>
      intro i hi ht
      by_cases he : rd a (i : Int) = rd b (i : Int)
      · refine Ev.step (f := fun k => impl_Row_uint8_73.l0 k a b (a.length : Int) ((i + 1 : Nat) : Int)) (fun k => ?_) (ih (i + 1) (by omega) (all_eq_of_take hl (by omega) ht he))
        simp only [impl_Row_uint8_73.l0]
        rw [if_pos (by omega), if_pos (by omega), if_pos (by omega), if_pos (by omega), if_pos he, w64 (by omega) (by omega)]; simp
      · refine Ev.one (fun k => ?_)
        simp only [impl_Row_uint8_73.l0]
        rw [if_pos (by omega), if_pos (by omega), if_pos (by omega), if_pos (by omega), if_neg he, decide_eq_false (fun h => he (by rw [h]))]
  refine Ev.congr (fun k => ?_) (key a.length 0 (by omega) (by simp))
  unfold impl_Row_uint8_73.f
  rw [if_pos (by omega)]; simp
theorem specSame_ev (a b : List Int) (hn : a.length ≤ 1048576) : Ev (fun k => spec_SameRow.f k a b) (decide (a = b)) := by
  by_cases hl : a.length = b.length
  case neg =>
    refine Ev.some (fun k => ?_)
    unfold spec_SameRow.f
    rw [if_neg (by omega), decide_eq_false (fun h => hl (by rw [h]))]
  have key : ∀ (d i : Nat), i + d = a.length → a.take i = b.take i → Ev (fun k => spec_SameRow.l0 k a b (i : Int)) (decide (a = b)) := by
    intro d
    induction d with
    | zero =>
      intro i hi ht
      obtain rfl : i = a.length := by omega
      obtain rfl : a = b := by rw [List.take_length, hl, List.take_length] at ht; exact ht
      refine Ev.one (fun k => ?_)
      simp only [spec_SameRow.l0]
      rw [if_neg (by omega)]; simp
    | succ d ih =>
      intro i hi ht
      by_cases he : rd a (i : Int) = rd b (i : Int)
      · refine Ev.step (f := fun k => spec_SameRow.l0 k a b ((i + 1 : Nat) : Int)) (fun k => ?_) (ih (i + 1) (by omega) (all_eq_of_take hl (by omega) ht he))
        simp only [spec_SameRow.l0]
        rw [if_pos (by omega), if_pos (by omega), if_pos (by omega), if_pos he, w64 (by omega) (by omega)]; simp
      · refine Ev.one (fun k => ?_)
        simp only [spec_SameRow.l0]
        rw [if_pos (by omega), if_pos (by omega), if_pos (by omega), if_neg he, decide_eq_false (fun h => he (by rw [h]))]
  refine Ev.congr (fun k => ?_) (key a.length 0 (by omega) (by simp))
  unfold spec_SameRow.f
  rw [if_pos (by omega)]; simp
/-- The days on which a walker comes; the walks of all whose going back would show what is seen. -/
def daysOn (x : S38) (i : Int) : Nat → Int → List S40 → List S40
  | 0, _, acc => acc
  | n + 1, d, acc => daysOn x i n (d + 1) (if onB x d = true then acc ++ [⟨i, d⟩] else acc)
def backRow (x : S38) (row : List Int) : List Int := rowBy (fun _ => -1) [x] row
def missPure (row seen : List Int) (day : Int) : List S38 → Int → List S40 → List S40
  | [], _, acc => acc
  | x :: r, i, acc => missPure row seen day r (i + 1) (if backRow x row = seen then daysOn x i (day + 1).toNat 0 acc else acc)
theorem daysOn_len (x : S38) (i : Int) : ∀ (n : Nat) (d : Int) (acc : List S40), (daysOn x i n d acc).length ≤ acc.length + n
  | 0, _, _ => by simp [daysOn]
  | n + 1, d, acc => by
    have := daysOn_len x i n (d + 1) (if onB x d = true then acc ++ [⟨i, d⟩] else acc)
    simp only [daysOn]
    refine Nat.le_trans this ?_
    split <;> simp <;> omega
theorem missPure_len (row seen : List Int) (day : Int) (h : day ≤ 400) : ∀ (ws : List S38) (i : Int) (acc : List S40), (missPure row seen day ws i acc).length ≤ acc.length + 401 * ws.length
  | [], _, _ => by simp [missPure]
  | x :: r, i, acc => by
    have h1 := missPure_len row seen day h r (i + 1) (if backRow x row = seen then daysOn x i (day + 1).toNat 0 acc else acc)
    have h2 := daysOn_len x i (day + 1).toNat 0 acc
    simp only [missPure]
    refine Nat.le_trans h1 ?_
    split <;> simp <;> omega
theorem implComes_eq {b : Int} {x : S38} (hx : WOk b x) {d : Int} (h0 : 0 ≤ d) (h1 : d ≤ 10000) : impl_Walker_comes.f x.f0 x.f1 x.f2 x.f3 x.f4 x.f5 d = some (onB x d) := by
  obtain ⟨⟨a0, b0⟩, ⟨a1, b1⟩, -, -, -, -⟩ := hx
  unfold impl_Walker_comes.f onB
  rw [w64 (x := x.f0) (by omega) (by omega), w64 (x := x.f1) (by omega) (by omega)]
  by_cases h : x.f0 ≤ d
  · rw [if_pos (by omega), if_neg (by omega), w64 (by omega) (by omega), tmod_nn (by omega)]; simp [h]; rfl
  · rw [if_neg (by omega)]; simp [h]
theorem missDays_eq {b : Int} {x : S38} (hx : WOk b x) (i : Int) : ∀ (n : Nat) (d : Int) (acc : List S40), 0 ≤ d → d + n ≤ 10001 → missDays x i n d acc = some (daysOn x i n d acc)
  | 0, _, _, _, _ => rfl
  | n + 1, d, acc, h0, h1 => by
    rw [missDays, implComes_eq hx h0 (by omega), Option.bind_some, missDays_eq hx i n (d + 1) _ (by omega) (by omega)]; rfl
theorem rowBy_ok {f : S38 → Int} {ws : List S38} {r : List Int} : ∀ x ∈ rowBy f ws r, 0 ≤ x ∧ x ≤ 255 := fun x hx => by have := rowBy_bd f ws r x hx; omega
theorem missAll_ev {r seen : List Int} {ws : List S38} {day : Int} (hb : 1 ≤ r.length) (hb1 : r.length ≤ 60) (hr : ∀ y ∈ r, 0 ≤ y ∧ y ≤ 255) (hw : ∀ x ∈ ws, WOk r.length x) (h8 : ws.length ≤ 8) (h0 : 0 ≤ day) (h1 : day ≤ 400) :
    ∀ (l : List S38) (i : Int) (acc : List S40), (∀ x ∈ l, x ∈ ws) → Ev (fun k => missAll k r ws day seen l i acc) (missPure (rowBy (fun x => untilZ x day) ws r) seen day l i acc)
  | [], _, acc, _ => Ev.pure acc
  | x :: l, i, acc, hl => by
    have hx := hw x (hl x List.mem_cons_self)
    have ih := fun acc' => missAll_ev (seen := seen) hb hb1 hr hw h8 h0 h1 l (i + 1) acc' (fun y hy => hl y (List.mem_cons_of_mem _ hy))
    have hrow := implRowOn_ev hb hb1 hr hw h8 h0 (by omega)
    have hwk := walked_ev (r := rowBy (fun x => untilZ x day) ws r) (by rw [rowBy_len]; exact hb) (by rw [rowBy_len]; exact hb1) rowBy_ok (fun _ => -1) [x] (by simp) (by rw [rowBy_len]; simpa using hx) (by simp)
    refine Ev.congr (fun k => by rw [missAll]) (Ev.bind hrow (Ev.bind hwk (Ev.bind (implEqual_ev (rowBy (fun _ => -1) [x] (rowBy (fun x => untilZ x day) ws r)) seen (by rw [rowBy_len, rowBy_len]; omega)) ?_)))
    simp only [missPure, decide_eq_true_eq]
    by_cases he : rowBy (fun _ => -1) [x] (rowBy (fun x => untilZ x day) ws r) = seen
    · simp only [if_pos (show backRow x (rowBy (fun x => untilZ x day) ws r) = seen from he), if_pos he, missDays_eq hx i (day + 1).toNat 0 acc (by omega) (by omega), Option.bind_some]; exact ih (daysOn x i (day + 1).toNat 0 acc)
    · simp only [if_neg (show ¬ backRow x (rowBy (fun x => untilZ x day) ws r) = seen from he), if_neg he, Option.bind_some]; exact ih acc
theorem neg_row {row : List Int} {x : S38} : rowBy (fun _ => 1) [⟨x.f0, x.f1, x.f2, x.f3, x.f4, -x.f5⟩] row = backRow x row := by
  refine ext_rd (by simp [rowBy_len, backRow]) (fun i hi => ?_)
  rw [rowBy_len] at hi
  rw [backRow, rowBy_rd hi, rowBy_rd hi, sumAt, sumAt, sumAt, sumAt]
  have : rd (vis row.length ⟨x.f0, x.f1, x.f2, x.f3, x.f4, -x.f5⟩) i = rd (vis row.length x) i := rfl
  rw [this]
  congr 1
  simp only [Int.mul_neg, Int.neg_mul, Int.one_mul]
theorem spec_missDays_eq {b : Int} {x : S38} (hx : WOk b x) (i : Int) : ∀ (n : Nat) (d : Int) (acc : List S40), 0 ≤ d → d + n ≤ 10001 → spec_missDays x i n d acc = some (daysOn x i n d acc)
  | 0, _, _, _, _ => rfl
  | n + 1, d, acc, h0, h1 => by
    rw [spec_missDays, specOn_eq hx h0 (by omega), Option.bind_some, spec_missDays_eq hx i n (d + 1) _ (by omega) (by omega)]; rfl
theorem spec_missAll_ev {row seen : List Int} {day : Int} (hb : 1 ≤ row.length) (hb1 : row.length ≤ 60) (hr : ∀ y ∈ row, 0 ≤ y ∧ y ≤ 255) (h0 : 0 ≤ day) (h1 : day ≤ 400) :
    ∀ (l : List S38) (i : Int) (acc : List S40), (∀ x ∈ l, WOk row.length x) → Ev (fun k => spec_missAll k row day seen l i acc) (missPure row seen day l i acc)
  | [], _, acc, _ => Ev.pure acc
  | x :: l, i, acc, hl => by
    have hx := hl x List.mem_cons_self
    have h5 := hx.h5
    have ih := fun acc' => spec_missAll_ev (seen := seen) hb hb1 hr h0 h1 l (i + 1) acc' (fun y hy => hl y (List.mem_cons_of_mem _ hy))
    have hback : WOk row.length (⟨x.f0, x.f1, x.f2, x.f3, x.f4, -x.f5⟩ : S38) := ⟨hx.h0, hx.h1, hx.h2, hx.h3, hx.h4, by constructor <;> simp only <;> omega⟩
    have ht := specTurned_ev (n := 1) hb hb1 hr hback
    rw [neg_row] at ht
    refine Ev.congr (f := fun k => (spec_l05Turned.f k row x.f0 x.f1 x.f2 x.f3 x.f4 (-x.f5) 1).bind fun wo => (spec_SameRow.f k wo seen).bind fun q => (if q = true then spec_missDays x i (day + 1).toNat 0 acc else some acc).bind fun acc' => spec_missAll k row day seen l (i + 1) acc') (fun k => by rw [spec_missAll, w8 (by omega) (by omega)]) (Ev.bind ht (Ev.bind (specSame_ev (backRow x row) seen (by rw [backRow, rowBy_len]; omega)) ?_))
    simp only [missPure, decide_eq_true_eq]
    by_cases he : backRow x row = seen
    · simp only [if_pos he, spec_missDays_eq hx i (day + 1).toNat 0 acc (by omega) (by omega), Option.bind_some]; exact ih (daysOn x i (day + 1).toNat 0 acc)
    · simp only [if_neg he, Option.bind_some]; exact ih acc
/-- Both tell the same. -/
theorem missed_both (r seen : List Int) (ws : List S38) (day : Int) (hr : ∀ x ∈ r, 0 ≤ x ∧ x ≤ 255) (ht : ∀ x ∈ ws, WT x) (hn : r.length ≤ 1048576) (hn2 : seen.length ≤ 1048576) (hm : ws.length ≤ 1048576) :
    ∃ o c, o.length ≤ 1048576 ∧ Ev (fun k => spec_MissedWalks.f k r ws day seen) (o, c) ∧ Ev (fun k => impl_MissedWalks.f k r ws day seen) (o, c) ∧ c = missCode r ws day seen ∧ (c = 0 → o = missPure (rowBy (fun x => untilZ x day) ws r) seen day ws 0 []) := by
  have hspec : ∀ (o : List S40) (c : Int), c = missCode r ws day seen → (c ≠ 0 → o = []) → (c = 0 → (0 ≤ day ∧ day ≤ 400 ∧ ws.length ≤ 8) ∧ Ev (fun k => (spec_l05Whole.f k r ws day).bind fun row => (spec_missAll k row day seen ws 0 []).bind fun r => some (r, (0 : Int))) (o, 0)) → Ev (fun k => spec_MissedWalks.f k r ws day seen) (o, c) := by
    intro o c hc hne he
    have hok := specOk_ev seen hn2
    have bad : missCode r ws day seen = 1 → (o, c) = (([] : List S40), (1 : Int)) := by
      intro h
      rw [hne (by omega), hc, h]
    unfold spec_MissedWalks.f
    refine Ev.bind hok ?_
    cases hv : validRow seen
    · rw [bad (by simp [missCode, hv, codeB])]
      exact Ev.some (fun k => by simp)
    · by_cases hl : (seen.length : Int) = (r.length : Int)
      case neg =>
        rw [bad (by simp [missCode, hv, codeB, show ((seen.length : Int) == (r.length : Int)) = false from beq_eq_false_iff_ne.mpr hl])]
        exact Ev.some (fun k => by simp [hl])
      · have hcode : missCode r ws day seen = codeB (rowOkB r ws) (inR 0 400 day) := by
          simp [missCode, hv, show ((seen.length : Int) == (r.length : Int)) = true from beq_iff_eq.mpr hl]
        have hj : ∀ q, codeB (rowOkB r ws) q = c → Ev (fun k => spec_MissedWalks.g k r ws day seen q) (o, c) := by
          intro q hq
          unfold spec_MissedWalks.g
          refine Ev.bind (specRow_ev r ws q hn hm) ?_
          rw [hq]
          by_cases h0 : c = 0
          · subst h0
            obtain ⟨hd, hev⟩ := he rfl
            simp only [if_true, if_pos hd]
            exact hev
          · simp only [if_neg h0]
            rw [hne h0]
            exact Ev.pure _
        simp only [if_true, if_pos hl, spec_l05Day.f, l00In_inR, Option.bind_some]
        cases hd : inR 0 10000 day
        · have := hj false (by
            rw [hc, hcode]
            congr 1
            have : ¬ (0 ≤ day ∧ day ≤ 10000) := fun h => by rw [← inR_iff] at h; rw [h] at hd; cases hd
            simp [inR]; omega)
          simpa using this
        · have := hj (decide (day ≤ 400)) (by
            rw [hc, hcode]
            congr 1
            have := inR_iff.mp hd
            simp [inR]; omega)
          simpa using this
  by_cases hc : missCode r ws day seen = 0
  · have hh := codeB_zero.mp hc
    simp only [Bool.and_eq_true] at hh
    have hday := inR_iff.mp hh.2
    have hrow := hh.1.1
    simp only [rowOkB, Bool.and_eq_true] at hrow
    obtain ⟨r1, r2, r3⟩ := row_of_valid hr hrow.1
    obtain ⟨-, h8, hw⟩ := WOk_of_valid ht hrow.2
    have hlen := missPure_len (rowBy (fun x => untilZ x day) ws r) seen day hday.2 ws 0 []
    refine ⟨missPure (rowBy (fun x => untilZ x day) ws r) seen day ws 0 [], 0, by simp at hlen; omega, hspec _ _ hc.symm (fun h => absurd rfl h) (fun _ => ⟨⟨hday.1, hday.2, h8⟩, ?_⟩), ?_, hc.symm, fun _ => rfl⟩
    · refine Ev.bind (specWhole_ev r1 r2 r3 hw h8 hday.1 (by omega)) (Ev.bind (spec_missAll_ev (seen := seen) (row := rowBy (fun x => untilZ x day) ws r) (by rw [rowBy_len]; exact r1) (by rw [rowBy_len]; exact r2) rowBy_ok hday.1 hday.2 ws 0 [] (by rw [rowBy_len]; exact hw)) (Ev.pure _))
    · have := missAll_ev (seen := seen) r1 r2 hr hw h8 hday.1 hday.2 ws 0 [] (fun _ h => h)
      refine Ev.congr (fun k => ?_) (Ev.bind this (f := fun _ t => some (t, (0 : Int))) (Ev.pure _))
      unfold impl_MissedWalks.f
      rw [if_pos hc]
  · refine ⟨[], missCode r ws day seen, by simp, hspec _ _ rfl (fun _ => rfl) (fun h => absurd h hc), ?_, rfl, fun h => absurd h hc⟩
    refine Ev.some (fun k => ?_)
    unfold impl_MissedWalks.f
    rw [if_neg hc]
theorem FnExactMissedWalks_ev (a0 : List Int) (a1 : List S94) (a2 : Int) (a3 : List Int) (g0 : (∀ x ∈ a0, (0 ≤ x ∧ x ≤ 255))) (b0 : a0.length ≤ 9223372036854775807) (g1 : (∀ x ∈ a1, (-32768 ≤ x.f0 ∧ x.f0 ≤ 32767) ∧ (-32768 ≤ x.f1 ∧ x.f1 ≤ 32767) ∧ (-32768 ≤ x.f2 ∧ x.f2 ≤ 32767) ∧ (-32768 ≤ x.f3 ∧ x.f3 ≤ 32767) ∧ (-32768 ≤ x.f4 ∧ x.f4 ≤ 32767) ∧ (-128 ≤ x.f5 ∧ x.f5 ≤ 127))) (b1 : a1.length ≤ 9223372036854775807) (g2 : (-9223372036854775808 ≤ a2 ∧ a2 ≤ 9223372036854775807)) (g3 : (∀ x ∈ a3, (0 ≤ x ∧ x ≤ 255))) (b3 : a3.length ≤ 9223372036854775807) : Ev (fun k => laws_FnExactMissedWalks.f k a0 a1 a2 a3) true := by
  have ht : ∀ x ∈ a1, WT (convW x) := fun x hx => by obtain ⟨h0, h1, h2, h3, h4, h5⟩ := g1 x hx; exact ⟨h0, h1, h2, h3, h4, h5⟩
  unfold laws_FnExactMissedWalks.f
  by_cases hn : (a0.length : Int) > 1048576
  · exact Ev.some (fun k => by rw [if_pos hn])
  by_cases hn3 : (a3.length : Int) > 1048576
  · exact Ev.some (fun k => by rw [if_neg hn, if_pos hn3])
  obtain ⟨bud, hbud⟩ := szWalkerS_ex a1
  simp only [if_neg hn, if_neg hn3, hbud, Option.bind_some]
  by_cases hm : bud < 0
  · exact Ev.some (fun k => by rw [if_pos hm])
  simp only [if_neg hm]
  have hmm := szWalkerS_some a1 b1 bud hbud hm
  have hrow := toRow_ev a0 (by omega)
  have hrow3 := toRow_ev a3 (by omega)
  have hws := toWalkerS_ev a1 hmm
  obtain ⟨o, c, ho, hs, hi, -, -⟩ := missed_both a0 a3 (a1.map convW) a2 g0 (by simpa using ht) (by omega) (by omega) (by simpa using hmm)
  obtain ⟨y1, hm1⟩ := markRow_ev a0 1 (by omega) (by omega) (by omega)
  obtain ⟨y2, hm2⟩ := markWalkerS_ev (a1.map convW) (1 + a0.length) (by omega) (by omega) (by simpa using hmm)
  have hmmap : (a1.map convW).length = a1.length := by simp
  obtain ⟨y3, hm3⟩ := markRow_ev a3 (1 + a0.length + 6 * (a1.map convW).length) (by omega) (by omega) (by omega)
  have hh := heldInt64A2S_ev o.length (by omega)
  have heq := eqInt64A2S_ev o ho
  refine Ev.bind hrow (Ev.bind hws (Ev.bind hrow3 (Ev.bind hs (Ev.bind hrow (Ev.bind hws (Ev.bind hrow3 (Ev.bind hi (Ev.bind heq ?_))))))))
  simp only [bne_self_eq_false, if_true]
  refine Ev.step (fun k => by rw [laws_FnExactMissedWalks.j0, if_neg (by decide)]) ?_
  refine Ev.bind hrow (Ev.bind (eqRow_ev a0 (by omega)) ?_)
  simp only [if_true]
  refine Ev.bind hws (Ev.bind (eqWalkerS_ev _ (by simpa using hmm)) ?_)
  simp only [if_true]
  refine Ev.bind hrow3 (Ev.bind (eqRow_ev a3 (by omega)) ?_)
  simp only [if_true]
  refine Ev.bind hm1 (Ev.bind hm2 (Ev.bind hm3 ?_))
  simp only [show ¬ (1 + (a0.length : Int) + 6 * ((a1.map convW).length : Int) + (a3.length : Int) < 0) by omega, if_false]
  refine Ev.bind heq ?_
  simp only [bne_self_eq_false, if_true]
  refine Ev.step (fun k => by rw [laws_FnExactMissedWalks.j1, if_neg (by decide)]) ?_
  refine Ev.bind (markInt64A2S_ev o ho) (Ev.bind hh ?_)
  simp only [show ¬ (1 + 2 * (o.length : Int) < 0) by omega, if_false, if_true]
  refine Ev.bind hrow (Ev.bind hws (Ev.bind hrow3 (Ev.bind hi (Ev.bind heq ?_))))
  simp only [bne_self_eq_false, if_true]
  refine Ev.step (fun k => by rw [laws_FnExactMissedWalks.j2, if_neg (by decide)]) ?_
  refine Ev.bind hh ?_
  simp only [show ¬ (1 + 2 * (o.length : Int) < 0) by omega, if_false, if_true]
  exact Ev.pure _
end Go.Proofs.Ytmheflciiodhdaa.P
/- The row of the law FnExactMissedWalks, out of its contract and its plain statement. Written by wip/tools/mkrow.py of this repo. -/
namespace Go.Proofs.Ytmheflciiodhdaa.fnExactMissedWalks
open Go.ChangeShapes Go.WideShapes Go.ChangeAt Go.RowKit
open Go.ChangeMaps (open_string shut_string)
open Go.Proofs.Ytmheflciiodhdaa.P Go.Proofs.YtmheflciiodhdaaW.PrintWords Go.Proofs.YtmheflciiodhdaaW.PrintLast Go.Proofs.YtmheflciiodhdaaW.PrintMore
set_option linter.unusedVariables false
theorem own : ownKnob Try.prog.godebug = none := by kernel_rfl
theorem laidOut : laidOutB Try.prog = true := by kernel_rfl
def good94 (x : S94) : Prop := (fun n : Int => (IntKind.i16).min ≤ n ∧ n ≤ (IntKind.i16).max) x.f0 ∧ (fun n : Int => (IntKind.i16).min ≤ n ∧ n ≤ (IntKind.i16).max) x.f1 ∧ (fun n : Int => (IntKind.i16).min ≤ n ∧ n ≤ (IntKind.i16).max) x.f2 ∧ (fun n : Int => (IntKind.i16).min ≤ n ∧ n ≤ (IntKind.i16).max) x.f3 ∧ (fun n : Int => (IntKind.i16).min ≤ n ∧ n ≤ (IntKind.i16).max) x.f4 ∧ (fun n : Int => (IntKind.i8).min ≤ n ∧ n ≤ (IntKind.i8).max) x.f5
set_option maxRecDepth 100000 in
theorem opens94 : Opens Try.prog k94 94 good94 := by
  intro H enc W base fuel held cs x h
  obtain ⟨xs, n, _, _, hl, hlen, hf⟩ := DataW.trod_struct Try.underlying94 h
  rw [show Try.prog.cellsOf 94 = 6 from by kernel_rfl] at hl
  match xs, hlen, cs, hl with
  | [y0, y1, y2, y3, y4, y5], _, [v0, v1, v2, v3, v4, v5], _ =>
    have g0 : DataW.trod enc Try.prog W base (fun _ => true) held n 35 (([v0, v1, v2, v3, v4, v5].drop 0).take (Try.prog.cellsOf 35)) = some y0 := hf 0 _ rfl
    rw [show Try.prog.cellsOf 35 = 1 from by kernel_rfl] at g0
    obtain ⟨u0, e0, b0⟩ := (Opens.int Try.underlying35) H enc W base n held [v0] y0 (by simpa using g0)
    have g1 : DataW.trod enc Try.prog W base (fun _ => true) held n 35 (([v0, v1, v2, v3, v4, v5].drop 1).take (Try.prog.cellsOf 35)) = some y1 := hf 1 _ rfl
    rw [show Try.prog.cellsOf 35 = 1 from by kernel_rfl] at g1
    obtain ⟨u1, e1, b1⟩ := (Opens.int Try.underlying35) H enc W base n held [v1] y1 (by simpa using g1)
    have g2 : DataW.trod enc Try.prog W base (fun _ => true) held n 35 (([v0, v1, v2, v3, v4, v5].drop 2).take (Try.prog.cellsOf 35)) = some y2 := hf 2 _ rfl
    rw [show Try.prog.cellsOf 35 = 1 from by kernel_rfl] at g2
    obtain ⟨u2, e2, b2⟩ := (Opens.int Try.underlying35) H enc W base n held [v2] y2 (by simpa using g2)
    have g3 : DataW.trod enc Try.prog W base (fun _ => true) held n 35 (([v0, v1, v2, v3, v4, v5].drop 3).take (Try.prog.cellsOf 35)) = some y3 := hf 3 _ rfl
    rw [show Try.prog.cellsOf 35 = 1 from by kernel_rfl] at g3
    obtain ⟨u3, e3, b3⟩ := (Opens.int Try.underlying35) H enc W base n held [v3] y3 (by simpa using g3)
    have g4 : DataW.trod enc Try.prog W base (fun _ => true) held n 35 (([v0, v1, v2, v3, v4, v5].drop 4).take (Try.prog.cellsOf 35)) = some y4 := hf 4 _ rfl
    rw [show Try.prog.cellsOf 35 = 1 from by kernel_rfl] at g4
    obtain ⟨u4, e4, b4⟩ := (Opens.int Try.underlying35) H enc W base n held [v4] y4 (by simpa using g4)
    have g5 : DataW.trod enc Try.prog W base (fun _ => true) held n 36 (([v0, v1, v2, v3, v4, v5].drop 5).take (Try.prog.cellsOf 36)) = some y5 := hf 5 _ rfl
    rw [show Try.prog.cellsOf 36 = 1 from by kernel_rfl] at g5
    obtain ⟨u5, e5, b5⟩ := (Opens.int Try.underlying36) H enc W base n held [v5] y5 (by simpa using g5)
    obtain rfl : v0 = .int .i16 u0 := by simpa using (show [v0] = [Value.int .i16 u0] from e0)
    obtain rfl : v1 = .int .i16 u1 := by simpa using (show [v1] = [Value.int .i16 u1] from e1)
    obtain rfl : v2 = .int .i16 u2 := by simpa using (show [v2] = [Value.int .i16 u2] from e2)
    obtain rfl : v3 = .int .i16 u3 := by simpa using (show [v3] = [Value.int .i16 u3] from e3)
    obtain rfl : v4 = .int .i16 u4 := by simpa using (show [v4] = [Value.int .i16 u4] from e4)
    obtain rfl : v5 = .int .i8 u5 := by simpa using (show [v5] = [Value.int .i8 u5] from e5)
    exact ⟨⟨u0, u1, u2, u3, u4, u5⟩, k94_mk W _, ⟨b0, b1, b2, b3, b4, b5⟩⟩
set_option maxRecDepth 100000 in
theorem lifted (os : Os) (started : os.Started) (H : Type) (enc : TypeId × Value → H) :
    ReturnsInHanded {} Try.checked os 5 .any (Rows.fnExactMissedWalksSpec.pre6 enc Try.prog Try.f5 Rows.fnExactMissedWalksRow.domain false) (Rows.fnExactMissedWalksSpec.post enc Try.prog Try.f5 false true false false) := by
  refine returnsInHanded_of_change_sized (C := Try.checked) own started (by kernel_rfl) Try.func5
    (ChangeSpec.witness6 (enc := enc) (C := Try.checked) false ⟨#[], #[.slice none 0 0, .slice none 0 0, .int .i64 0, .slice none 0 0], []⟩ 8 (by kernel_rfl) (by kernel_rfl) (by kernel_rfl) (by kernel_rfl)) ?_
  intro W base args ds gs before hval0 hW hcnd hsz0 _
  have hsz : (DataW.weightsEach Try.prog (Try.f5.params.toList ++ Rows.fnExactMissedWalksSpec.plain.varTypes Try.prog) (ds ++ gs)).all (· ≤ reachBytes) = true := hsz0
  have hval : ∀ (j : Nat) t v, Try.f5.params[j]? = some t → args[j]? = some v → Value.okWide Try.prog W .any base t v := hval0
  have hW' := hW
  obtain ⟨p, q, hA0, hV, rfl, hfz, hnd⟩ := hW
  have hA : DataW.TrodAll enc Try.prog W 0 (fun _ => true) true Try.f5.params.toList args.toList ds p := hA0
  rw [Try.params5] at hA hval hsz
  obtain ⟨v0, vs0, d0, ds0, p0, q0, hargs, rfl, rfl, h0, r0⟩ := trodAll_cons hA
  obtain ⟨v1, vs1, d1, ds1, p1, q1, rfl, rfl, rfl, h1, r1⟩ := trodAll_cons r0
  obtain ⟨v2, vs2, d2, ds2, p2, q2, rfl, rfl, rfl, h2, r2⟩ := trodAll_cons r1
  obtain ⟨v3, vs3, d3, ds3, p3, q3, rfl, rfl, rfl, h3, r3⟩ := trodAll_cons r2
  obtain ⟨rfl, rfl, rfl⟩ := trodAll_nil r3
  obtain rfl : args = #[v0, v1, v2, v3] := by cases args; simp_all
  obtain ⟨rfl, rfl⟩ := trodVars_none hV
  obtain ⟨a0, len0, cap0, rfl⟩ := okWide_slice Try.underlying22 (hval 0 22 v0 rfl rfl)
  have k0 := h0
  have lt0 : ∀ x ∈ p0, x.block < W.heap.size := by obtain ⟨m, hm⟩ := k0; exact DataW.trod_lt m _ _ _ hm
  obtain ⟨z0, rfl, c0, b0, w0, g0⟩ := Opens.arg (Opens.slice Try.underlying22 (by kernel_rfl) (Opens.int Try.underlying5)) h0
  obtain ⟨a1, len1, cap1, rfl⟩ := okWide_slice Try.underlying45 (hval 1 45 v1 rfl rfl)
  have k1 := h1
  have lt1 : ∀ x ∈ p1, x.block < W.heap.size := by obtain ⟨m, hm⟩ := k1; exact DataW.trod_lt m _ _ _ hm
  obtain ⟨z1, rfl, c1, b1, w1, g1⟩ := Opens.arg (Opens.slice Try.underlying45 (by kernel_rfl) opens94) h1
  obtain ⟨a2, rfl, rfl, rfl, w2⟩ := open_int Try.underlying2 (hval 2 2 v2 rfl rfl) h2
  obtain ⟨a3, len3, cap3, rfl⟩ := okWide_slice Try.underlying22 (hval 3 22 v3 rfl rfl)
  have k3 := h3
  have lt3 : ∀ x ∈ p3, x.block < W.heap.size := by obtain ⟨m, hm⟩ := k3; exact DataW.trod_lt m _ _ _ hm
  obtain ⟨z3, rfl, c3, b3, w3, g3⟩ := Opens.arg (Opens.slice Try.underlying22 (by kernel_rfl) (Opens.int Try.underlying5)) h3
  clear hA0 hval0 hsz0 hsz
  obtain ⟨k, hk⟩ := (FnExactMissedWalks_ev z0 z1 a2 z3 g0 b0 g1 b1 (wf_mm (k := .i64) (n := a2) w2) g3 b3).rounds
  refine (laws_FnExactMissedWalks.calls k a0 cap0 z0 a1 cap1 z1 a2 a3 cap3 z3 true W w0 c0 w1 c1 w3 c3 hk rfl).mono fun e W' ⟨he, bel⟩ => ?_
  subst he
  exact ⟨_, rfl, _, _, _, [], _, [], hW', trodAll_mk1 (shut_bool Try.underlying4 _), (trodAll_cons_mk (Below.trod laidOut (by kernel_rfl) (of_decide_eq_true (by kernel_rfl)) k0 bel lt0) (trodAll_cons_mk (Below.trod laidOut (by kernel_rfl) (of_decide_eq_true (by kernel_rfl)) k1 bel lt1) (trodAll_cons_mk (shut_int Try.underlying2 w2) (trodAll_cons_mk (Below.trod laidOut (by kernel_rfl) (of_decide_eq_true (by kernel_rfl)) k3 bel lt3) trodAll_mk0)))), rfl, bel.frame _, fun h => by cases h⟩
theorem over : Rows.fnExactMissedWalksRow.holds Try.pinned (OpenSpec.ofChange Rows.fnExactMissedWalksSpec) :=
  OpenClaim.holds_of_wide 5 Try.f5 rfl rfl rfl rfl rfl rfl rfl ⟨rfl, rfl, rfl, rfl, rfl⟩ rfl rfl rfl rfl rfl (by kernel_rfl) Try.func5 (by kernel_rfl)
    (of_decide_eq_true (by kernel_rfl)) (by unfold Func.isWrapper; first | (rw [if_pos (by decide +kernel)]; kernel_rfl) | (rw [if_neg (by decide +kernel)]; exact ⟨rfl, rfl⟩))
    (fun os started H enc _ => lifted os started H enc)
theorem proved : Rows.FnExactMissedWalksSaid := over
end Go.Proofs.Ytmheflciiodhdaa.fnExactMissedWalks
namespace Go.Proofs.Ytmheflciiodhdaa
/-- The row, under a short name, for the claim. -/
theorem fnExactMissedWalks_holds : Rows.FnExactMissedWalksSaid := fnExactMissedWalks.proved
end Go.Proofs.Ytmheflciiodhdaa
