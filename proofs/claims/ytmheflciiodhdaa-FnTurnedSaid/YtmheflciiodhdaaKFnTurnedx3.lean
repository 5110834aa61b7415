/- Part 3 of the proof of the law FnTurned: contracts of the functions it reaches. -/
import Derived.Test.YtmheflciiodhdaaKFnTurnedx1
import Derived.Test.YtmheflciiodhdaaKFnTurnedx2
import Derived.Test.YtmheflciiodhdaaKFnTurnedw22
/- What is asked of rows and walkers, and what rows are on days. -/
namespace Go.Proofs.Ytmheflciiodhdaa.P
open Go.RowKit Go.Proofs.YtmheflciiodhdaaW.PrintWords Go.Proofs.YtmheflciiodhdaaW.PrintLast Go.Proofs.YtmheflciiodhdaaW.PrintMore
theorem l00In_inR (a lo hi : Int) : spec_l00In.f a lo hi = some (inR lo hi a) := by
  unfold spec_l00In.f inR
  by_cases h : a ≥ lo
  · rw [if_pos h]; simp [show lo ≤ a from h]
  · rw [if_neg h]; simp [show ¬ lo ≤ a from h]
theorem inR_iff {lo hi a : Int} : inR lo hi a = true ↔ lo ≤ a ∧ a ≤ hi := by simp [inR]
theorem specOk_ev (l : List Int) (hn : l.length ≤ 1048576) : Ev (fun k => spec_l05Ok.f k l) (validRow l) := by
  have key : ∀ (d i : Nat), i + d = l.length → Ev (fun k => spec_l05Ok.l0 k l (i : Int)) (inR 1 60 (l.length : Int) && !((l.drop i).any fun x => decide (7 < x))) := by
    intro d
    induction d with
    | zero =>
      intro i hi
      refine Ev.one (fun k => ?_)
      simp only [spec_l05Ok.l0]
      rw [if_neg (by omega), List.drop_eq_nil_of_le (by omega), l00In_inR]; simp
    | succ d ih =>
      intro i hi
      have hlt : i < l.length := by omega
      have e := List.drop_eq_getElem_cons hlt
      by_cases h : rd l (i : Int) > 7
      · refine Ev.one (fun k => ?_)
        simp only [spec_l05Ok.l0]
        rw [if_pos (by omega), if_pos (by omega), if_pos h, e]
        rw [rd_lt hlt] at h
        simp only [List.any_cons, decide_eq_true (show 7 < l[i] from h), Bool.true_or, Bool.not_true, Bool.and_false]
      · refine Ev.step (f := fun k => spec_l05Ok.l0 k l ((i + 1 : Nat) : Int)) (fun k => ?_) ?_
        · simp only [spec_l05Ok.l0]
          rw [if_pos (by omega), if_pos (by omega), if_neg h, w64 (by omega) (by omega)]; simp
        · have := ih (i + 1) (by omega)
          rw [e]
          rw [rd_lt hlt] at h
          simpa only [List.any_cons, decide_eq_false (show ¬ 7 < l[i] from h), Bool.false_or] using this
  have := key l.length 0 (by omega)
  simpa [validRow, spec_l05Ok.f] using this
/-- A walker's numbers are words of 16 and of 8 bits. -/
structure WT (x : S38) : Prop where
  h0 : -32768 ≤ x.f0 ∧ x.f0 ≤ 32767
  h1 : -32768 ≤ x.f1 ∧ x.f1 ≤ 32767
  h2 : -32768 ≤ x.f2 ∧ x.f2 ≤ 32767
  h3 : -32768 ≤ x.f3 ∧ x.f3 ≤ 32767
  h4 : -32768 ≤ x.f4 ∧ x.f4 ≤ 32767
  h5 : -128 ≤ x.f5 ∧ x.f5 ≤ 127
theorem specWalker_ev (b : Int) (hb : 1 ≤ b) (hb1 : b ≤ 60) (x : S38) : Ev (fun k => spec_l05Walker.f k b x.f0 x.f1 x.f2 x.f3 x.f4 x.f5) (!(badW b x)) := by
  refine Ev.one (fun k => ?_)
  unfold spec_l05Walker.f badW
  simp only [l00In_inR, Option.bind_some, spec_l05Walker.j0]
  rw [w64 (x := b - 1) (by omega) (by omega)]
  cases inR 0 10000 (wrap64 x.f0) <;> cases inR 1 100 (wrap64 x.f1) <;> cases inR 0 (b - 1) (wrap64 x.f2) <;> cases inR 0 60 (wrap64 x.f3) <;> cases inR 1 60 (wrap64 x.f4) <;> cases inR (-7) 7 (wrap64 x.f5) <;> simp
theorem specWalkers_ev (b : Int) (l : List S38) (hn : l.length ≤ 1048576) : Ev (fun k => spec_l05Walkers.f k b l) (validWalkers b l) := by
  unfold validWalkers
  by_cases hb : inR 1 60 b = true
  case neg =>
    refine Ev.one (fun k => ?_)
    simp only [spec_l05Walkers.f, l00In_inR, Option.bind_some]
    rw [if_neg hb]
    simp [spec_l05Walkers.j0, Bool.eq_false_iff.mpr hb]
  have hbb := inR_iff.mp hb
  by_cases h8 : (l.length : Int) ≤ 8
  case neg =>
    refine Ev.one (fun k => ?_)
    simp only [spec_l05Walkers.f, l00In_inR, Option.bind_some]
    rw [if_pos hb]
    simp [spec_l05Walkers.j0, show (8 : Int) < l.length by omega, h8]
  have key : ∀ (d i : Nat), i + d = l.length → Ev (fun k => spec_l05Walkers.l0 k b l (i : Int)) (!((l.drop i).any (badW b))) := by
    intro d
    induction d with
    | zero =>
      intro i hi
      refine Ev.one (fun k => ?_)
      simp only [spec_l05Walkers.l0]
      rw [if_neg (by omega), List.drop_eq_nil_of_le (by omega)]; simp
    | succ d ih =>
      intro i hi
      have hlt : i < l.length := by omega
      have e := drop_rdW hlt
      refine Ev.step (f := fun k => (spec_l05Walker.f k b (rd_T38 l i).f0 (rd_T38 l i).f1 (rd_T38 l i).f2 (rd_T38 l i).f3 (rd_T38 l i).f4 (rd_T38 l i).f5).bind fun t => if t = true then spec_l05Walkers.l0 k b l ((i + 1 : Nat) : Int) else some false) (fun k => ?_) ?_
      · simp only [spec_l05Walkers.l0]
        rw [if_pos (by omega), if_pos (by omega), w64 (by omega) (by omega)]; simp
      · refine Ev.bind (specWalker_ev b (by omega) (by omega) _) ?_
        rw [e]
        by_cases hbad : badW b (rd_T38 l i) = true
        · simpa [hbad] using Ev.pure false
        · simpa [Bool.eq_false_iff.mpr hbad] using ih (i + 1) (by omega)
  refine Ev.congr (f := fun k => spec_l05Walkers.j0 k b l false) (fun k => ?_) (Ev.step (f := fun k => spec_l05Walkers.l0 k b l ((0 : Nat) : Int)) (fun k => ?_) ?_)
  · simp only [spec_l05Walkers.f, l00In_inR, Option.bind_some]
    rw [if_pos hb]
    simp [show ¬ ((8 : Int) < l.length) by omega]
  · simp [spec_l05Walkers.j0]
  · have := key l.length 0 (by omega)
    simpa [hb, h8] using this
theorem WOk_of_valid {b : Int} {l : List S38} (ht : ∀ x ∈ l, WT x) (h : validWalkers b l = true) : (1 ≤ b ∧ b ≤ 60) ∧ l.length ≤ 8 ∧ ∀ x ∈ l, WOk b x := by
  simp only [validWalkers, Bool.and_eq_true, decide_eq_true_eq, Bool.not_eq_true', List.any_eq_false] at h
  obtain ⟨⟨h1, h2⟩, h3⟩ := h
  refine ⟨inR_iff.mp h1, by omega, fun x hx => ?_⟩
  have hb := h3 x hx
  obtain ⟨t0, t1, t2, t3, t4, t5⟩ := ht x hx
  simp only [badW, Bool.or_eq_true, Bool.not_eq_true', not_or, Bool.not_eq_false] at hb
  obtain ⟨⟨⟨⟨⟨b0, b1⟩, b2⟩, b3⟩, b4⟩, b5⟩ := hb
  rw [w64 (by omega) (by omega)] at b0 b1 b2 b3 b4 b5
  exact ⟨inR_iff.mp b0, inR_iff.mp b1, inR_iff.mp b2, inR_iff.mp b3, inR_iff.mp b4, inR_iff.mp b5⟩
theorem row_of_valid {l : List Int} (ht : ∀ x ∈ l, 0 ≤ x ∧ x ≤ 255) (h : validRow l = true) : 1 ≤ l.length ∧ l.length ≤ 60 ∧ ∀ x ∈ l, 0 ≤ x ∧ x ≤ 7 := by
  simp only [validRow, Bool.and_eq_true, Bool.not_eq_true', List.any_eq_false, decide_eq_true_eq] at h
  have := inR_iff.mp h.1
  exact ⟨by omega, by omega, fun x hx => ⟨(ht x hx).1, by have := h.2 x hx; omega⟩⟩
/-- Rows that are asked for: code 1, 2 or 0. -/
theorem specRow_ev (l : List Int) (ws : List S38) (q : Bool) (hn : l.length ≤ 1048576) (hw : ws.length ≤ 1048576) : Ev (fun k => spec_l05Row.f k l ws q) (codeB (rowOkB l ws) q) := by
  unfold spec_l05Row.f
  refine Ev.bind (specOk_ev l hn) ?_
  unfold rowOkB
  cases hv : validRow l
  · exact Ev.some (fun k => by simp [codeB])
  · have hl : Ev (fun k => spec_l05Asked.f k (l.length : Int) ws q) (codeB (validWalkers l.length ws) q) := by
      unfold spec_l05Asked.f
      refine Ev.bind (specWalkers_ev _ ws hw) (Ev.some (fun k => ?_))
      cases validWalkers l.length ws <;> cases q <;> simp [codeB]
    have := Ev.bind hl (f := fun _ t => some t) (Ev.pure _)
    simpa using this
def fromB (a b : Int) : Bool := inR 0 10000 a && inR 0 10000 b && decide (a ≤ b)
theorem l05From_eq (a b : Int) : spec_l05From.f a b = some (fromB a b) := by
  simp only [spec_l05From.f, spec_l05Day.f, l00In_inR, Option.bind_some, fromB]
  cases inR 0 10000 a <;> cases inR 0 10000 b <;> simp
def spanC (ok : Bool) (a b : Int) : Int := if codeB ok (fromB a b) = 0 then (if b - a + 1 > 400 then 3 else 0) else codeB ok (fromB a b)
theorem codeB_zero {a b : Bool} : codeB a b = 0 ↔ a = true ∧ b = true := by cases a <;> cases b <;> simp [codeB]
theorem fromB_iff {a b : Int} : fromB a b = true ↔ 0 ≤ a ∧ b ≤ 10000 ∧ a ≤ b := by simp [fromB, inR]; omega
theorem l05Span_eq (ok : Bool) (a b : Int) : spec_l05Span.f (codeB ok (fromB a b)) a b = some (spanC ok a b) := by
  unfold spec_l05Span.f spanC
  by_cases h : codeB ok (fromB a b) = 0
  · have := fromB_iff.mp (codeB_zero.mp h).2
    rw [if_pos h, if_pos h, w64 (x := b - a) (by omega) (by omega), w64 (by omega) (by omega)]
    split <;> rfl
  · rw [if_neg h, if_neg h]
theorem spanCode_ev (ok : Bool) (a b : Int) : Ev (fun k => impl_spanCode.f k ok a b) (spanC ok a b) := by
  refine Ev.one (fun k => ?_)
  have e : codeB ok (fromB a b) = if ([a, b] : List Int).all (inR 0 10000) = true then codeB ok (decide (a ≤ b)) else codeB ok false := by
    simp only [fromB, List.all_cons, List.all_nil, Bool.and_true]
    cases inR 0 10000 a <;> cases inR 0 10000 b <;> simp
  have f : ∀ c, c = codeB ok (fromB a b) → impl_spanCode.j0 (k + 1) a b c = some (spanC ok a b) := by
    rintro c rfl
    simp only [impl_spanCode.j0, spanC]
    by_cases h : codeB ok (fromB a b) = 0
    · have := fromB_iff.mp (codeB_zero.mp h).2
      rw [if_pos h, if_pos h, w64 (x := b - a) (by omega) (by omega), w64 (by omega) (by omega)]
      split <;> rfl
    · rw [if_neg h, if_neg h]
  simp only [impl_spanCode.f, isDay_all, Option.bind_some, codeOf_codeB]
  split
  · next h => exact f _ (by rw [e, if_pos h])
  · next h => exact f _ (by rw [e, if_neg h])
/-- How often a walker has come until a day, and whether on it. -/
def untilZ (x : S38) (d : Int) : Int := if d < x.f0 then 0 else (d - x.f0) / x.f1 + 1
def onB (x : S38) (d : Int) : Bool := decide (x.f0 ≤ d) && decide ((d - x.f0) % x.f1 = 0)
def onZ (x : S38) (d : Int) : Int := if onB x d = true then 1 else 0
theorem div_bd {e m : Int} (he : 0 ≤ e) (hm : 1 ≤ m) : 0 ≤ e / m ∧ e / m ≤ e := ⟨Int.ediv_nonneg he (by omega), Int.ediv_le_self _ he⟩
theorem untilO_eq {b : Int} {x : S38} (hx : WOk b x) {d : Int} (h0 : 0 ≤ d) (h1 : d ≤ 10000) : untilO x d = some (untilZ x d) := by
  obtain ⟨⟨a0, b0⟩, ⟨a1, b1⟩, -, -, -, -⟩ := hx
  unfold untilO impl_Walker_until.f untilZ
  rw [w64 (x := x.f0) (by omega) (by omega)]
  by_cases h : d < x.f0
  · rw [if_pos h, if_pos h]
  · have := div_bd (show 0 ≤ d - x.f0 by omega) a1
    rw [if_neg h, if_neg h, w64 (x := x.f1) (by omega) (by omega), if_neg (by omega), w64 (x := d - x.f0) (by omega) (by omega), Int.tdiv_eq_ediv_of_nonneg (by omega), w64 (x := (d - x.f0) / x.f1) (by omega) (by omega), w64 (by omega) (by omega)]
theorem specUntil_eq {b : Int} {x : S38} (hx : WOk b x) {d : Int} (h0 : 0 ≤ d) (h1 : d ≤ 10000) : spec_l05Until.f x.f0 x.f1 x.f2 x.f3 x.f4 x.f5 d = some (untilZ x d) := by
  obtain ⟨⟨a0, b0⟩, ⟨a1, b1⟩, -, -, -, -⟩ := hx
  unfold spec_l05Until.f untilZ
  rw [w64 (x := x.f0) (by omega) (by omega), w64 (x := d - x.f0) (by omega) (by omega)]
  by_cases h : d < x.f0
  · rw [if_pos (by omega), if_pos h]
  · have := div_bd (show 0 ≤ d - x.f0 by omega) a1
    rw [if_neg (by omega), if_neg h, w64 (x := x.f1) (by omega) (by omega), if_neg (by omega), Int.tdiv_eq_ediv_of_nonneg (by omega), w64 (x := (d - x.f0) / x.f1) (by omega) (by omega), w64 (by omega) (by omega)]
theorem specOn_eq {b : Int} {x : S38} (hx : WOk b x) {d : Int} (h0 : 0 ≤ d) (h1 : d ≤ 10000) : spec_l05On.f x.f0 x.f1 x.f2 x.f3 x.f4 x.f5 d = some (onB x d) := by
  obtain ⟨⟨a0, b0⟩, ⟨a1, b1⟩, -, -, -, -⟩ := hx
  unfold spec_l05On.f onB
  rw [w64 (x := x.f0) (by omega) (by omega), w64 (x := d - x.f0) (by omega) (by omega), w64 (x := x.f1) (by omega) (by omega)]
  by_cases h : x.f0 ≤ d
  · rw [if_pos (by omega), if_neg (by omega), tmod_nn (by omega)]; simp [h]; rfl
  · rw [if_neg (by omega)]; simp [h]
theorem untilZ_bd {b : Int} {x : S38} (hx : WOk b x) {d : Int} (h0 : 0 ≤ d) (h1 : d ≤ 10000) : 0 ≤ untilZ x d ∧ untilZ x d ≤ 10001 := by
  have a0 := hx.h0
  have a1 := hx.h1
  unfold untilZ
  split
  · omega
  · have := div_bd (show 0 ≤ d - x.f0 by omega) a1.1; omega
theorem div_succ {e m : Int} (hm : 1 ≤ m) : (e + 1) / m = e / m + (if (e + 1) % m = 0 then 1 else 0) := by
  have h1 := Int.emod_add_mul_ediv e m
  have h2 := Int.emod_nonneg e (show m ≠ 0 by omega)
  have h3 := Int.emod_lt_of_pos e (show 0 < m by omega)
  have e1 : e + 1 = (e % m + 1) + m * (e / m) := by omega
  have e2 : (e + 1) / m = (e % m + 1) / m + e / m := by conv => lhs; rw [e1]
                                                        rw [Int.add_mul_ediv_left _ _ (by omega)]
  have e3 : (e + 1) % m = (e % m + 1) % m := by conv => lhs; rw [e1]
                                                rw [Int.add_mul_emod_self_left]
  rw [e2, e3]
  by_cases h : e % m + 1 = m
  · rw [h, Int.ediv_self (by omega), Int.emod_self]; simp; omega
  · rw [Int.ediv_eq_zero_of_lt (by omega) (by omega), Int.emod_eq_of_lt (by omega) (by omega), if_neg (by omega)]; omega
theorem until_succ {b : Int} {x : S38} (hx : WOk b x) (d : Int) : untilZ x (d + 1) = untilZ x d + onZ x (d + 1) := by
  have a1 := hx.h1
  unfold untilZ onZ onB
  by_cases h : d + 1 < x.f0
  · rw [if_pos h, if_pos (by omega), if_neg (by simp; omega)]; rfl
  · by_cases h2 : d < x.f0
    · have : d + 1 - x.f0 = 0 := by omega
      rw [if_neg h, if_pos h2, this]; simp; omega
    · rw [if_neg h, if_neg h2, show d + 1 - x.f0 = (d - x.f0) + 1 by omega, div_succ a1.1]
      have : x.f0 ≤ d + 1 := by omega
      simp [this]; omega
/-- The reference's row after all walks until a day, and after one day more. -/
theorem row_step0 (x : S38) (s : List Int) (hs : ∀ y ∈ s, 0 ≤ y ∧ y ≤ 7) : rowBy (fun _ => 0) [x] s = s := by
  refine ext_rd (rowBy_len _ _ _) (fun i hi => ?_)
  rw [rowBy_len] at hi
  have := hs _ (List.getElem_mem hi)
  rw [rowBy_rd hi, sumAt, sumAt, rd_lt hi]; omega
theorem specBehind_ev {r : List Int} {ws : List S38} {d : Int} (hb : 1 ≤ r.length) (hb1 : r.length ≤ 60) (hr : ∀ y ∈ r, 0 ≤ y ∧ y ≤ 7) (hw : ∀ x ∈ ws, WOk r.length x) (h8 : ws.length ≤ 8) (h0 : 0 ≤ d) (h1 : d ≤ 10000) :
    Ev (fun k => spec_l05Behind.f k r ws d) (rowBy (fun x => onZ x d) ws r) := by
  have key := Ev.loop (fun k (s : List Int) i => spec_l05Behind.l0 k ws d s i) ws.length (fun i s => s.length = r.length ∧ (∀ y ∈ s, 0 ≤ y ∧ y ≤ 7) ∧ rowBy (fun x => onZ x d) (ws.drop i) s = rowBy (fun x => onZ x d) ws r) (rowBy (fun x => onZ x d) ws r) ?_ ?_ ws.length 0 r (by omega) (by simpa using hr)
  · refine Ev.congr (fun k => ?_) key
    simp only [spec_l05Behind.f, Option.bind_some]
    rw [if_pos (by simp; omega)]; simp
  · rintro i s hi ⟨hl, hs, he⟩
    have hmem : rd_T38 ws i ∈ ws := by simp [rd_T38, hi]
    have hx := hw _ hmem
    rw [drop_rdW hi] at he
    refine ⟨rowBy (fun _ => onZ (rd_T38 ws i) d) [rd_T38 ws i] s, ⟨by rw [rowBy_len]; exact hl, rowBy_bd _ _ _, by rw [rowBy_cons (fun x => onZ x d)]; exact he⟩, fun h => ?_⟩
    by_cases hon : onB (rd_T38 ws i) d = true
    · have e1 : onZ (rd_T38 ws i) d = 1 := by simp [onZ, hon]
      rw [e1] at h
      refine Ev.step (f := fun k => (spec_l05Turned.f k s (rd_T38 ws i).f0 (rd_T38 ws i).f1 (rd_T38 ws i).f2 (rd_T38 ws i).f3 (rd_T38 ws i).f4 (rd_T38 ws i).f5 1).bind fun t => spec_l05Behind.l0 k ws d t ((i : Int) + 1)) (fun k => ?_) (Ev.bind (specTurned_ev (by omega) (by omega) (fun y hy => by have := hs y hy; omega) (by rw [hl]; exact hx)) h)
      simp only [spec_l05Behind.l0]
      rw [if_pos (by omega), if_pos (by omega), specOn_eq hx h0 h1, w64 (by omega) (by omega)]; simp [hon]
    · have e1 : onZ (rd_T38 ws i) d = 0 := by simp [onZ, hon]
      rw [e1, row_step0 _ _ hs] at h
      refine Ev.step (fun k => ?_) h
      simp only [spec_l05Behind.l0]
      rw [if_pos (by omega), if_pos (by omega), specOn_eq hx h0 h1, w64 (by omega) (by omega)]; simp [hon]
  · rintro s ⟨hl, hs, he⟩
    rw [List.drop_length, rowBy_nil _ _ hs] at he
    refine Ev.one (fun k => ?_)
    simp only [spec_l05Behind.l0]
    rw [if_neg (by omega), he]
theorem specWhole_ev {r : List Int} {ws : List S38} {d : Int} (hb : 1 ≤ r.length) (hb1 : r.length ≤ 60) (hr : ∀ y ∈ r, 0 ≤ y ∧ y ≤ 7) (hw : ∀ x ∈ ws, WOk r.length x) (h8 : ws.length ≤ 8) (h0 : 0 ≤ d) (h1 : d ≤ 10000) :
    Ev (fun k => spec_l05Whole.f k r ws d) (rowBy (fun x => untilZ x d) ws r) := by
  have key := Ev.loop (fun k (s : List Int) i => spec_l05Whole.l0 k ws d s i) ws.length (fun i s => s.length = r.length ∧ (∀ y ∈ s, 0 ≤ y ∧ y ≤ 7) ∧ rowBy (fun x => untilZ x d) (ws.drop i) s = rowBy (fun x => untilZ x d) ws r) (rowBy (fun x => untilZ x d) ws r) ?_ ?_ ws.length 0 r (by omega) (by simpa using hr)
  · refine Ev.congr (fun k => ?_) key
    simp only [spec_l05Whole.f, Option.bind_some]
    rw [if_pos (by simp; omega)]; simp
  · rintro i s hi ⟨hl, hs, he⟩
    have hmem : rd_T38 ws i ∈ ws := by simp [rd_T38, hi]
    have hx := hw _ hmem
    rw [drop_rdW hi] at he
    refine ⟨rowBy (fun _ => untilZ (rd_T38 ws i) d) [rd_T38 ws i] s, ⟨by rw [rowBy_len]; exact hl, rowBy_bd _ _ _, by rw [rowBy_cons (fun x => untilZ x d)]; exact he⟩, fun h => ?_⟩
    refine Ev.step (f := fun k => (spec_l05Turned.f k s (rd_T38 ws i).f0 (rd_T38 ws i).f1 (rd_T38 ws i).f2 (rd_T38 ws i).f3 (rd_T38 ws i).f4 (rd_T38 ws i).f5 (untilZ (rd_T38 ws i) d)).bind fun t => spec_l05Whole.l0 k ws d t ((i : Int) + 1)) (fun k => ?_) (Ev.bind (specTurned_ev (by omega) (by omega) (fun y hy => by have := hs y hy; omega) (by rw [hl]; exact hx)) h)
    simp only [spec_l05Whole.l0]
    rw [if_pos (by omega), if_pos (by omega), specUntil_eq hx h0 h1, w64 (by omega) (by omega)]; simp
  · rintro s ⟨hl, hs, he⟩
    rw [List.drop_length, rowBy_nil _ _ hs] at he
    refine Ev.one (fun k => ?_)
    simp only [spec_l05Whole.l0]
    rw [if_neg (by omega), he]
/-- The program's row on a day. -/
theorem implRowOn_ev {r : List Int} {ws : List S38} {d : Int} (hb : 1 ≤ r.length) (hb1 : r.length ≤ 60) (hr : ∀ y ∈ r, 0 ≤ y ∧ y ≤ 255) (hw : ∀ x ∈ ws, WOk r.length x) (h8 : ws.length ≤ 8) (h0 : 0 ≤ d) (h1 : d ≤ 10000) :
    Ev (fun k => impl_rowOn.f k r ws d) (rowBy (fun x => untilZ x d) ws r) := by
  have hu : ∀ x ∈ ws, untilT x d = untilZ x d := fun x hx => by unfold untilT; rw [untilO_eq (hw x hx) h0 h1]; rfl
  rw [← rowBy_cong (fun x => untilT x d) (fun x => untilZ x d) ws r hu]
  refine Ev.congr (fun k => ?_) (walked_ev hb hb1 hr (fun x => untilT x d) ws h8 hw (fun x hx => by
    have := untilZ_bd (hw x hx) h0 h1; simp only [hu x hx]; omega))
  unfold impl_rowOn.f
  rw [if_pos (List.all_eq_true.mpr fun x hx => by rw [untilO_eq (hw x hx) h0 h1]; rfl)]
end Go.Proofs.Ytmheflciiodhdaa.P
-- Written by wip/tools/mkprint.py of this repo, over the kit's print, out of the translation; Lean checks it.
namespace Go.Proofs.Ytmheflciiodhdaa.P
open Go.RowKit Go.Proofs.YtmheflciiodhdaaW.PrintWords Go.Proofs.YtmheflciiodhdaaW.PrintLast Go.Proofs.YtmheflciiodhdaaW.PrintMore
attribute [local go_sem] max2_int min2_int max_two min_two max_three min_three max_four min_four   -- for this text's walks alone
set_option linter.unusedVariables false
set_option linter.unusedSimpArgs false
/-! ### spec_SameRow: function 20 -/
def spec_SameRow.l0 : Nat → List Int → List Int → Int → Option (Bool)
  | 0, _, _, _ => none
  | k + 1, x0, x1, x5 => if x5 < (x0.length : Int) then (if 0 ≤ x5 then (if x5 < (x1.length : Int) then (if (rd x0 x5) = (rd x1 x5) then (spec_SameRow.l0 k x0 x1 (wrap64 (x5 + 1))) else (some false)) else (none)) else (none)) else (some true)
def spec_SameRow.f (k : Nat) (l0 : List Int) (l1 : List Int) : Option (Bool) := if (l0.length : Int) = (l1.length : Int) then (spec_SameRow.l0 k l0 l1 0) else (some false)
theorem spec_SameRow.mono_l : ∀ k, (∀ y0 y1 y2, LeO (spec_SameRow.l0 k y0 y1 y2) (spec_SameRow.l0 (k + 1) y0 y1 y2))
  | 0 => fun _ _ _ r h => by simp [spec_SameRow.l0] at h
  | k + 1 => by
    have ih0 := spec_SameRow.mono_l k
    · intro y0 y1 y2
      unfold spec_SameRow.l0
      repeat' first
      | (with_reducible exact ih0 _ _ _)
      | (with_reducible exact LeO.refl _)
      | (with_reducible exact LeO.none _)
      | (with_reducible refine LeO.ite ?_ ?_)
      | (with_reducible refine LeO.bind ?_ (fun _ => ?_))
      | exact ih0 _ _ _
      | exact LeO.none _
      | refine LeO.ite ?_ ?_
      | refine LeO.bind ?_ (fun _ => ?_)
theorem spec_SameRow.mono : ∀ a0 a1 k, LeO (spec_SameRow.f k a0 a1) (spec_SameRow.f (k + 1) a0 a1) := by
  intro a0 a1 k
  have ih0 := spec_SameRow.mono_l k
  unfold spec_SameRow.f
  repeat' first
      | (with_reducible exact ih0 _ _ _)
      | (with_reducible exact LeO.refl _)
      | (with_reducible exact LeO.none _)
      | (with_reducible refine LeO.ite ?_ ?_)
      | (with_reducible refine LeO.bind ?_ (fun _ => ?_))
      | exact ih0 _ _ _
      | exact LeO.none _
      | refine LeO.ite ?_ ?_
      | refine LeO.bind ?_ (fun _ => ?_)
set_option maxHeartbeats 8000000 in
set_option maxRecDepth 100000 in
theorem spec_SameRow.calls (k : Nat) (A0 : Option Addr) (c0 : Nat) (l0 : List Int) (A1 : Option Addr) (c1 : Nat) (l1 : List Int) (r : Bool) (w : World) (hr0 : Kd.C (Kd.int .u8) w A0 l0.length l0) (hc0 : l0.length ≤ c0) (hr1 : Kd.C (Kd.int .u8) w A1 l1.length l1) (hc1 : l1.length ≤ c1) (h : spec_SameRow.f k l0 l1 = some r) :
    Calls Try.prog 20 #[.slice A0 l0.length c0, .slice A1 l1.length c1] w fun e w' => e = .returned (.bool r) ∧ Drawn0 w w' := by
  have HR0 := Aside0.mk hr0
  have HC0 := Aside0.mk hc0
  clear hr0 hc0
  have HR1 := Aside0.mk hr1
  have HC1 := Aside0.mk hc1
  clear hr1 hc1
  have H : (if (l0.length : Int) = (l1.length : Int) then (spec_SameRow.l0 k l0 l1 0) else (some false)) = some r := h
  clear h
  by_cases c3 : (l0.length : Int) = (l1.length : Int)
  · rw [if_pos c3] at H
    have c3b0 : ((l0.length : Int) == (l1.length : Int)) = true := beq_iff_eq.mpr c3
    have c3b1 : ((l0.length : Int) != (l1.length : Int)) = false := bne_eq_false_iff_eq.mpr c3
    have c3b2 : (l0.length == l1.length) = true := by first | simpa using c3 | (simp at c3 ⊢; omega)
    clear c3
    have H' := Aside0.mk H
    clear H
    go_enter Try.func20, Try.ntmps20
    go_wp2
    repeat (go_quiet (fail); try go_wp2)
    go_loopg [5] k (fun kq v5 w' => ∃ (x5_1 : Int), v5 = .int .i64 x5_1 ∧ Aside0 (spec_SameRow.l0 kq l0 l1 x5_1 = some r) ∧ Aside0 (kq ≤ k) ∧ Drawn0 w w')
    case atStart => exact ⟨(0), (by first | rfl | (simp; done) | (simp [*]; done)), H', ⟨Nat.le_refl _⟩, by repeat (first | exact Drawn0.refl _ | apply Drawn0.step)⟩
    case round =>
      clear H'
      try clear c1
      try clear c2
      try clear p2
      try clear c3
      try clear c3b0
      try clear c3b1
      try clear c3b2
      obtain ⟨x5_1, rfl, HA, HK1, ⟨m1, rfl⟩⟩ := hrel
      cases gk with
      | zero => exact absurd HA.out (by simp [spec_SameRow.l0])
      | succ k1 =>
        have H := HA.out
        clear HA
        simp only [spec_SameRow.l0] at H
        by_cases c4 : x5_1 < (l0.length : Int)
        · rw [if_pos c4] at H
          have c4b0 : decide (x5_1 < (l0.length : Int)) = true := decide_eq_true c4
          clear c4
          by_cases c5 : 0 ≤ x5_1
          · rw [if_pos c5] at H
            have c5b0 : decide (0 ≤ x5_1) = true := decide_eq_true c5
            clear c5
            by_cases c6 : x5_1 < (l1.length : Int)
            · rw [if_pos c6] at H
              have c6b0 : decide (x5_1 < (l1.length : Int)) = true := decide_eq_true c6
              clear c6
              by_cases c7 : (rd l0 x5_1) = (rd l1 x5_1)
              · rw [if_pos c7] at H
                have c7b0 : ((rd l0 x5_1) == (rd l1 x5_1)) = true := beq_iff_eq.mpr c7
                have c7b1 : ((rd l0 x5_1) != (rd l1 x5_1)) = false := bne_eq_false_iff_eq.mpr c7
                clear c7
                have H' := Aside0.mk H
                clear H
                have p253 : 0 ≤ (x5_1 : Int) := of_decide_eq_true (by first | (with_reducible assumption) | assumption)
                have q253 : x5_1 < (l0.length : Int) := of_decide_eq_true (by first | (with_reducible assumption) | assumption)
                obtain ⟨ad253, e253, hx253_0⟩ := Kd.at_int HR0.out x5_1 p253 q253
                cases e253
                replace p253 := eq_true p253
                replace q253 := eq_true q253
                have p254 : 0 ≤ (x5_1 : Int) := of_decide_eq_true (by first | (with_reducible assumption) | assumption)
                have q254 : x5_1 < (l1.length : Int) := of_decide_eq_true (by first | (with_reducible assumption) | assumption)
                obtain ⟨ad254, e254, hx254_0⟩ := Kd.at_int HR1.out x5_1 p254 q254
                cases e254
                replace p254 := eq_true p254
                replace q254 := eq_true q254
                go_wp2
                repeat (go_quiet (fail); try go_wp2)
                go_roundg k1
                case measure => have := HK1.out; omega
                case rel => exact ⟨(wrap64 (x5_1 + 1)), (by first | rfl | (simp; done) | (simp [*]; done)), H', ⟨by have := HK1.out; omega⟩, by repeat (first | exact Drawn0.refl _ | apply Drawn0.step)⟩
              · rw [if_neg c7] at H
                have c7b0 : ((rd l0 x5_1) == (rd l1 x5_1)) = false := beq_eq_false_iff_ne.mpr c7
                have c7b1 : ((rd l0 x5_1) != (rd l1 x5_1)) = true := bne_iff_ne.mpr c7
                obtain rfl := Option.some.inj H
                have p253 : 0 ≤ (x5_1 : Int) := of_decide_eq_true (by first | (with_reducible assumption) | assumption)
                have q253 : x5_1 < (l0.length : Int) := of_decide_eq_true (by first | (with_reducible assumption) | assumption)
                obtain ⟨ad253, e253, hx253_0⟩ := Kd.at_int HR0.out x5_1 p253 q253
                cases e253
                replace p253 := eq_true p253
                replace q253 := eq_true q253
                have p254 : 0 ≤ (x5_1 : Int) := of_decide_eq_true (by first | (with_reducible assumption) | assumption)
                have q254 : x5_1 < (l1.length : Int) := of_decide_eq_true (by first | (with_reducible assumption) | assumption)
                obtain ⟨ad254, e254, hx254_0⟩ := Kd.at_int HR1.out x5_1 p254 q254
                cases e254
                replace p254 := eq_true p254
                replace q254 := eq_true q254
                go_wp2
                repeat (go_quiet (fail); try go_wp2)
                go_ret
                exact ⟨by first | rfl | (simp; done) | (simp [*]; done), by repeat (first | exact Drawn0.refl _ | apply Drawn0.step)⟩
            · rw [if_neg c6] at H
              exact absurd H (by simp)
          · rw [if_neg c5] at H
            exact absurd H (by simp)
        · rw [if_neg c4] at H
          have c4b0 : decide (x5_1 < (l0.length : Int)) = false := decide_eq_false c4
          clear c4
          obtain rfl := Option.some.inj H
          go_wp2
          repeat (go_quiet (fail); try go_wp2)
          go_ret
          exact ⟨by first | rfl | (simp; done) | (simp [*]; done), by repeat (first | exact Drawn0.refl _ | apply Drawn0.step)⟩
  · rw [if_neg c3] at H
    have c3b0 : ((l0.length : Int) == (l1.length : Int)) = false := beq_eq_false_iff_ne.mpr c3
    have c3b1 : ((l0.length : Int) != (l1.length : Int)) = true := bne_iff_ne.mpr c3
    have c3b2 : (l0.length == l1.length) = false := by first | simpa using c3 | (simp at c3 ⊢; omega)
    obtain rfl := Option.some.inj H
    go_enter Try.func20, Try.ntmps20
    go_wp2
    repeat (go_quiet (fail); try go_wp2)
    go_ret
    exact ⟨by first | rfl | (simp; done) | (simp [*]; done), by repeat (first | exact Drawn0.refl _ | apply Drawn0.step)⟩
end Go.Proofs.Ytmheflciiodhdaa.P
-- Written by wip/tools/mkprint.py of this repo, over the kit's print, out of the translation; Lean checks it.
namespace Go.Proofs.Ytmheflciiodhdaa.P
open Go.RowKit Go.Proofs.YtmheflciiodhdaaW.PrintWords Go.Proofs.YtmheflciiodhdaaW.PrintLast Go.Proofs.YtmheflciiodhdaaW.PrintMore
attribute [local go_sem] max2_int min2_int max_two min_two max_three min_three max_four min_four   -- for this text's walks alone
set_option linter.unusedVariables false
set_option linter.unusedSimpArgs false
/-! ### spec_MissedWalks: given -/
def spec_missDays (x : S38) (i : Int) : Nat → Int → List S40 → Option (List S40)
  | 0, _, acc => some acc
  | n + 1, d, acc => (spec_l05On.f x.f0 x.f1 x.f2 x.f3 x.f4 x.f5 d).bind fun b => spec_missDays x i n (d + 1) (if b = true then acc ++ [⟨i, d⟩] else acc)
def spec_missAll (k : Nat) (row : List Int) (day : Int) (seen : List Int) : List S38 → Int → List S40 → Option (List S40)
  | [], _, acc => some acc
  | x :: r, i, acc => (spec_l05Turned.f k row x.f0 x.f1 x.f2 x.f3 x.f4 (IntKind.i8.wrap (-x.f5)) 1).bind fun wo => (spec_SameRow.f k wo seen).bind fun q => (if q = true then spec_missDays x i (day + 1).toNat 0 acc else some acc).bind fun acc' => spec_missAll k row day seen r (i + 1) acc'
def spec_MissedWalks.g (k : Nat) (l0 : List Int) (l1 : List S38) (a2 : Int) (l3 : List Int) (q : Bool) : Option (List S40 × Int) :=
  (spec_l05Row.f k l0 l1 q).bind fun c => if c = 0 then (if 0 ≤ a2 ∧ a2 ≤ 400 ∧ l1.length ≤ 8 then (spec_l05Whole.f k l0 l1 a2).bind fun row => (spec_missAll k row a2 l3 l1 0 []).bind fun r => some (r, 0) else none) else some ([], c)
def spec_MissedWalks.f (k : Nat) (l0 : List Int) (l1 : List S38) (a2 : Int) (l3 : List Int) : Option (List S40 × Int) :=
  (spec_l05Ok.f k l3).bind fun ok => if ok = true then (if (l3.length : Int) = (l0.length : Int) then (spec_l05Day.f a2).bind fun dy => (if dy = true then spec_MissedWalks.g k l0 l1 a2 l3 (decide (a2 ≤ 400)) else spec_MissedWalks.g k l0 l1 a2 l3 false) else some ([], 1)) else some ([], 1)
theorem spec_missAll_mono {row : List Int} {day : Int} {seen : List Int} (k : Nat) : ∀ (r : List S38) (i : Int) (acc : List S40), LeO (spec_missAll k row day seen r i acc) (spec_missAll (k + 1) row day seen r i acc)
  | [], _, _ => LeO.refl _
  | _ :: r, _, _ => LeO.bind (spec_l05Turned.mono _ _ _ _ _ _ _ _ k) (fun _ => LeO.bind (spec_SameRow.mono _ _ k) (fun _ => LeO.bind (LeO.refl _) (fun _ => spec_missAll_mono k r _ _)))
theorem spec_MissedWalks.mono_g : ∀ a0 a1 a2 a3 q k, LeO (spec_MissedWalks.g k a0 a1 a2 a3 q) (spec_MissedWalks.g (k + 1) a0 a1 a2 a3 q) := fun _ _ _ _ _ k => LeO.bind (spec_l05Row.mono _ _ _ k) (fun _ => LeO.ite (LeO.ite (LeO.bind (spec_l05Whole.mono _ _ _ k) (fun _ => LeO.bind (spec_missAll_mono k _ _ _) (fun _ => LeO.refl _))) (LeO.none _)) (LeO.refl _))
theorem spec_MissedWalks.mono : ∀ a0 a1 a2 a3 k, LeO (spec_MissedWalks.f k a0 a1 a2 a3) (spec_MissedWalks.f (k + 1) a0 a1 a2 a3) := fun _ _ _ _ k => LeO.bind (spec_l05Ok.mono _ k) (fun _ => LeO.ite (LeO.ite (LeO.bind (LeO.refl _) (fun _ => LeO.ite (spec_MissedWalks.mono_g _ _ _ _ _ k) (spec_MissedWalks.mono_g _ _ _ _ _ k))) (LeO.refl _)) (LeO.refl _))
set_option maxHeartbeats 8000000 in
set_option maxRecDepth 100000 in
theorem spec_MissedWalks.calls (k : Nat) (A0 : Option Addr) (c0 : Nat) (l0 : List Int) (A1 : Option Addr) (c1 : Nat) (l1 : List S38) (a2 : Int) (A3 : Option Addr) (c3 : Nat) (l3 : List Int) (r1 : List S40) (r2 : Int) (w : World) (hr0 : Kd.C (Kd.int .u8) w A0 l0.length l0) (hc0 : l0.length ≤ c0) (hr1 : Kd.C k38 w A1 l1.length l1) (hc1 : l1.length ≤ c1) (hr3 : Kd.C (Kd.int .u8) w A3 l3.length l3) (hc3 : l3.length ≤ c3) (h : spec_MissedWalks.f k l0 l1 a2 l3 = some (r1, r2)) :
    Calls Try.prog 14 #[.slice A0 l0.length c0, .slice A1 l1.length c1, .int .i64 a2, .slice A3 l3.length c3] w fun e w' => ∃ v0_ : Value, e = .returned (.tuple #[v0_, .int .i64 r2]) ∧ Kd.R k40 40 w' w.heap.size (fun _ => True) v0_ r1 ∧ Below w.heap.size w w' := by
  have HR0 := Aside0.mk hr0
  have HR1 := Aside0.mk hr1
  have HR3 := Aside0.mk hr3
  have HC0 := Aside0.mk hc0
  have HC1 := Aside0.mk hc1
  have HC3 := Aside0.mk hc3
  clear hr0 hr1 hr3 hc0 hc1 hc3
  have hu := Try.underlying38
  obtain ⟨ok, hok, h1⟩ := Option.bind_eq_some_iff.mp h
  have HOK := Aside0.mk hok
  clear h hok
  cases ok with
  | false =>
    rw [if_neg (by decide)] at h1
    simp only [Option.some.injEq, Prod.mk.injEq] at h1
    obtain ⟨rfl, rfl⟩ := h1
    go_enter Try.func14, Try.ntmps14
    go_wp2_with (first
      | ((with_reducible refine gate_dst (N := 16) rfl ?_); refine Kd.R_lit k40 (w0 := w) w.heap.size 40 rfl (N := 16) rfl (xs := ([] : List S40)) (inner := []) (ok := fun _ => True) (okp := fun _ => True) ?hr (Reps.none _ _) (fun _ hk => hk) trivial (Below.refl _ _) (Nat.le_refl _) (by simp) ?_; (case hr => first | (go_simp; done) | (go_simp; rfl)); intro v16 w16 ho16 hb16 _ _; (have HO := Aside0.mk ho16); (have HB := Aside0.mk hb16); clear ho16 hb16)
      | (go_at_call 75; refine (spec_l05Ok.calls k A3 c3 l3 _ _ (Kd.C_below HR3.out HB.out) HC3.out HOK.out).mono ?_; rintro e w2 ⟨rfl, ⟨nd, rfl⟩⟩))
    go_ret2
    exact ⟨_, rfl, Kd.R_drewN HO.out _, pw_below_drewN HB.out _⟩
  | true =>
    rw [if_pos rfl] at h1
    by_cases hl : (l3.length : Int) = (l0.length : Int)
    case neg =>
      rw [if_neg hl] at h1
      simp only [Option.some.injEq, Prod.mk.injEq] at h1
      obtain ⟨rfl, rfl⟩ := h1
      have hn : ((l3.length : Int) != (l0.length : Int)) = true := bne_iff_ne.mpr hl
      clear hl
      go_enter Try.func14, Try.ntmps14
      go_wp2_with (first
        | ((with_reducible refine gate_dst (N := 16) rfl ?_); refine Kd.R_lit k40 (w0 := w) w.heap.size 40 rfl (N := 16) rfl (xs := ([] : List S40)) (inner := []) (ok := fun _ => True) (okp := fun _ => True) ?hr (Reps.none _ _) (fun _ hk => hk) trivial (Below.refl _ _) (Nat.le_refl _) (by simp) ?_; (case hr => first | (go_simp; done) | (go_simp; rfl)); intro v16 w16 ho16 hb16 _ _; (have HO := Aside0.mk ho16); (have HB := Aside0.mk hb16); clear ho16 hb16)
        | (go_at_call 75; refine (spec_l05Ok.calls k A3 c3 l3 _ _ (Kd.C_below HR3.out HB.out) HC3.out HOK.out).mono ?_; rintro e w2 ⟨rfl, ⟨nd, rfl⟩⟩))
      go_ret2
      exact ⟨_, rfl, Kd.R_drewN HO.out _, pw_below_drewN HB.out _⟩
    rw [if_pos hl] at h1
    have hn : ((l3.length : Int) != (l0.length : Int)) = false := bne_eq_false_iff_eq.mpr hl
    obtain ⟨dy, hdy, h2⟩ := Option.bind_eq_some_iff.mp h1
    have HDY := Aside0.mk hdy
    clear h1 hdy hl
    have H : ∃ q, (if dy = true then q = decide (a2 ≤ 400) else q = false) ∧ spec_MissedWalks.g k l0 l1 a2 l3 q = some (r1, r2) := by
      cases dy
      · exact ⟨false, by simp, by simpa using h2⟩
      · exact ⟨decide (a2 ≤ 400), by simp, by simpa using h2⟩
    clear h2
    obtain ⟨q, hq, hg⟩ := H
    obtain ⟨c, hc, h3⟩ := Option.bind_eq_some_iff.mp hg
    have HC := Aside0.mk hc
    clear hg hc
    by_cases hcode : c = 0
    case neg =>
      rw [if_neg hcode] at h3
      simp only [Option.some.injEq, Prod.mk.injEq] at h3
      obtain ⟨rfl, rfl⟩ := h3
      have hne : (c != 0) = true := bne_iff_ne.mpr hcode
      clear hcode
      cases dy
      all_goals
        simp only [if_true, Bool.false_eq_true, if_false] at hq
        subst hq
        go_enter Try.func14, Try.ntmps14
        go_wp2_with (first
          | ((with_reducible refine gate_dst (N := 16) rfl ?_); refine Kd.R_lit k40 (w0 := w) w.heap.size 40 rfl (N := 16) rfl (xs := ([] : List S40)) (inner := []) (ok := fun _ => True) (okp := fun _ => True) ?hr (Reps.none _ _) (fun _ hk => hk) trivial (Below.refl _ _) (Nat.le_refl _) (by simp) ?_; (case hr => first | (go_simp; done) | (go_simp; rfl)); intro v16 w16 ho16 hb16 _ _; (have HO := Aside0.mk ho16); (have HB := Aside0.mk hb16); clear ho16 hb16)
          | (go_at_call 75; refine (spec_l05Ok.calls k A3 c3 l3 _ _ (Kd.C_below HR3.out HB.out) HC3.out HOK.out).mono ?_; rintro e w2 ⟨rfl, ⟨nd, rfl⟩⟩)
          | (go_at_call 65; refine (spec_l05Day.calls _ _ _ HDY.out).mono ?_; rintro e w3 ⟨rfl, ⟨nd3, rfl⟩⟩; (have HO3 := Aside0.mk (Kd.R_drewN (Kd.R_drewN HO.out nd) nd3)); (have HB3 := Aside0.mk (pw_below_drewN (pw_below_drewN HB.out nd) nd3)); clear HO HB; (try simp only [World.drewN_drewN] at HO3 HB3))
          | (go_at_call 64; refine (spec_l05Row.calls k A0 c0 l0 A1 c1 l1 _ _ _ (Kd.C_below HR0.out HB3.out) HC0.out (Kd.C_below HR1.out HB3.out) HC1.out HC.out).mono ?_; rintro e w4 ⟨rfl, hb4⟩; (have HO4 := Aside0.mk (Kd.R_below HO3.out hb4)); (have HB4 := Aside0.mk (below_step HB3.out hb4)); clear hb4 HO3 HB3))
        go_ret2
        exact ⟨_, rfl, HO4.out, HB4.out⟩
    subst hcode
    rw [if_pos rfl] at h3
    by_cases hday : 0 ≤ a2 ∧ a2 ≤ 400 ∧ l1.length ≤ 8
    case neg => rw [if_neg hday] at h3; simp at h3
    rw [if_pos hday] at h3
    have HD := Aside0.mk hday
    clear hday
    obtain ⟨row, hrow, h4⟩ := Option.bind_eq_some_iff.mp h3
    obtain ⟨r, hf, h5⟩ := Option.bind_eq_some_iff.mp h4
    simp only [Option.some.injEq, Prod.mk.injEq] at h5
    obtain ⟨rfl, rfl⟩ := h5
    have HROW := Aside0.mk hrow
    have HF := Aside0.mk hf
    clear h3 h4 hrow hf
    have hmain : Calls Try.prog 14 #[.slice A0 l0.length c0, .slice A1 l1.length c1, .int .i64 a2, .slice A3 l3.length c3] w fun e w' => ∃ v0_ : Value, e = .returned (.tuple #[v0_, .int .i64 0]) ∧ Kd.R k40 40 w' w.heap.size (fun _ => True) v0_ r ∧ Below w.heap.size w w' := by
      cases dy
      all_goals
        simp only [if_true, Bool.false_eq_true, if_false] at hq
        subst hq
        go_enter Try.func14, Try.ntmps14
        go_wp2_with (first
          | ((with_reducible refine gate_dst (N := 16) rfl ?_); refine Kd.R_lit k40 (w0 := w) w.heap.size 40 rfl (N := 16) rfl (xs := ([] : List S40)) (inner := []) (ok := fun _ => True) (okp := fun _ => True) ?hr (Reps.none _ _) (fun _ hk => hk) trivial (Below.refl _ _) (Nat.le_refl _) (by simp) ?_; (case hr => first | (go_simp; done) | (go_simp; rfl)); intro v16 w16 ho16 hb16 _ _; (have HO := Aside0.mk ho16); (have HB := Aside0.mk hb16); clear ho16 hb16)
          | (go_at_call 75; refine (spec_l05Ok.calls k A3 c3 l3 _ _ (Kd.C_below HR3.out HB.out) HC3.out HOK.out).mono ?_; rintro e w2 ⟨rfl, ⟨nd, rfl⟩⟩)
          | (go_at_call 65; refine (spec_l05Day.calls _ _ _ HDY.out).mono ?_; rintro e w3 ⟨rfl, ⟨nd3, rfl⟩⟩; (have HO3 := Aside0.mk (Kd.R_drewN (Kd.R_drewN HO.out nd) nd3)); (have HB3 := Aside0.mk (pw_below_drewN (pw_below_drewN HB.out nd) nd3)); clear HO HB; (try simp only [World.drewN_drewN] at HO3 HB3))
          | (go_at_call 64; refine (spec_l05Row.calls k A0 c0 l0 A1 c1 l1 _ _ _ (Kd.C_below HR0.out HB3.out) HC0.out (Kd.C_below HR1.out HB3.out) HC1.out HC.out).mono ?_; rintro e w4 ⟨rfl, hb4⟩; (have HO4 := Aside0.mk (Kd.R_below HO3.out hb4)); (have HB4 := Aside0.mk (below_step HB3.out hb4)); clear hb4 HO3 HB3)
          | (go_at_call 66; refine (spec_l05Whole.calls k A0 c0 l0 A1 c1 l1 a2 row _ (Kd.C_below HR0.out HB4.out) HC0.out (Kd.C_below HR1.out HB4.out) HC1.out HROW.out).mono ?_; rintro e w5 ⟨v5, rfl, ho5, hb5⟩; (have HO := Aside0.mk (Kd.R_below HO4.out hb5)); (have HW := Aside0.mk (Kd.R_lower ho5 HB4.out.size)); (have HB := Aside0.mk (below_step HB4.out hb5)); clear ho5 hb5 HO4 HB4))
        obtain ⟨A4, c4, rfl⟩ := Kd.R_slice HW.out
        go_loopw [10, 13, 14, 15] (fun v10 v13 v14 v15 w' => ∃ (i : Nat) (acc : List S40), i ≤ l1.length ∧ v13 = .int .i64 i ∧ Aside0 (spec_missAll k row a2 l3 (l1.drop i) i acc = some r) ∧ Aside0 (acc.length ≤ 1000 * i) ∧ Aside0 (Kd.R k40 40 w' w.heap.size (fun _ => True) v10 acc) ∧ Aside0 (Kd.R (Kd.int .u8) 5 w' w.heap.size (fun _ => True) (.slice A4 row.length c4) row) ∧ Aside0 (Below w.heap.size w w')) (fun _ v13 _ _ _ => l1.length - (intOf v13).toNat)
        case atStart => exact ⟨0, [], Nat.zero_le _, rfl, ⟨by simpa using HF.out⟩, ⟨by simp⟩, HO, HW, HB⟩
        case round =>
          clear HO HW HB HF hn
          obtain ⟨i, acc, hi, rfl, HF, HLA, HO, HW, HB⟩ := hrel
          have hsz := HB.out.size
          have hd0 := HD.out.1
          have h8 := HD.out.2.2
          by_cases hlt : i < l1.length
          · have hF1 := HF.out
            rw [drop_rdW hlt] at hF1
            obtain ⟨wo, hwo, hF3⟩ := Option.bind_eq_some_iff.mp hF1
            obtain ⟨q, hq, hF4⟩ := Option.bind_eq_some_iff.mp hF3
            obtain ⟨acc', hacc, hF5⟩ := Option.bind_eq_some_iff.mp hF4
            have HWO := Aside0.mk hwo
            have HQ := Aside0.mk hq
            have HACC := Aside0.mk hacc
            have HF' := Aside0.mk hF5
            clear hwo hq hacc hF1 hF3 hF4 hF5 HF
            obtain ⟨ad, rfl, h0, h1, h2, h3, h4, h5⟩ := at_T38 (Kd.C_below HR1.out HB.out) (i : Int) (by omega) (by omega)
            simp only [Int.toNat_natCast] at h0 h1 h2 h3 h4 h5
            have HX := Aside0.mk (show rd_T38 l1 (i : Int) = rd_T38 l1 (i : Int) from rfl)
            generalize hXe : rd_T38 l1 (i : Int) = X at HX h0 h1 h2 h3 h4 h5 HWO HACC
            have HXE := Aside0.mk hXe
            clear hXe HX
            have q1 := eq_true (show (i : Int) < (l1.length : Int) by omega)
            have q0 := eq_true (show (0 : Int) ≤ (i : Int) by omega)
            obtain ⟨wp0, rfl⟩ : ∃ wo : World, wo = wr := ⟨_, rfl⟩
            have BK6 : ∀ w26 : World, ∀ gb : Nat, w26.heap[gb]? = some (.cells #[.int .i16 0, .int .i16 0, .int .i16 0, .int .i16 0, .int .i16 0, .int .i8 0] 38 (0, 0)) → Aside0 (Kd.R k40 40 w26 w.heap.size (fun _ => True) u10 acc) → Aside0 (Kd.R (Kd.int .u8) 5 w26 w.heap.size (fun _ => True) (.slice A4 row.length c4) row) → Below w.heap.size w w26 → w.heap.size ≤ gb →
                Aside0 (Kd.R k40 40 ((((((w26.setCell ⟨gb, 0, none⟩ (.int .i16 X.f0)).setCell ⟨gb, 1, none⟩ (.int .i16 X.f1)).setCell ⟨gb, 2, none⟩ (.int .i16 X.f2)).setCell ⟨gb, 3, none⟩ (.int .i16 X.f3)).setCell ⟨gb, 4, none⟩ (.int .i16 X.f4)).setCell ⟨gb, 5, none⟩ (.int .i8 X.f5)) w.heap.size (fun _ => True) u10 acc) ∧ Aside0 (Kd.R (Kd.int .u8) 5 ((((((w26.setCell ⟨gb, 0, none⟩ (.int .i16 X.f0)).setCell ⟨gb, 1, none⟩ (.int .i16 X.f1)).setCell ⟨gb, 2, none⟩ (.int .i16 X.f2)).setCell ⟨gb, 3, none⟩ (.int .i16 X.f3)).setCell ⟨gb, 4, none⟩ (.int .i16 X.f4)).setCell ⟨gb, 5, none⟩ (.int .i8 X.f5)) w.heap.size (fun _ => True) (.slice A4 row.length c4) row) ∧ Aside0 (Below w.heap.size w ((((((w26.setCell ⟨gb, 0, none⟩ (.int .i16 X.f0)).setCell ⟨gb, 1, none⟩ (.int .i16 X.f1)).setCell ⟨gb, 2, none⟩ (.int .i16 X.f2)).setCell ⟨gb, 3, none⟩ (.int .i16 X.f3)).setCell ⟨gb, 4, none⟩ (.int .i16 X.f4)).setCell ⟨gb, 5, none⟩ (.int .i8 X.f5))) ∧ Aside0 (((((((w26.setCell ⟨gb, 0, none⟩ (.int .i16 X.f0)).setCell ⟨gb, 1, none⟩ (.int .i16 X.f1)).setCell ⟨gb, 2, none⟩ (.int .i16 X.f2)).setCell ⟨gb, 3, none⟩ (.int .i16 X.f3)).setCell ⟨gb, 4, none⟩ (.int .i16 X.f4)).setCell ⟨gb, 5, none⟩ (.int .i8 X.f5)).heap[gb]? = some (.cells #[.int .i16 X.f0, .int .i16 X.f1, .int .i16 X.f2, .int .i16 X.f3, .int .i16 X.f4, .int .i8 X.f5] 38 (0, 0))) := by
              intro w26 gb hbk HO2 HW2 hb2 hg
              have BK := Aside0.mk hbk
              refine ⟨⟨Kd.R_mono (Kd.R_far (p := ⟨gb, 5, none⟩) (Kd.R_far (p := ⟨gb, 4, none⟩) (Kd.R_far (p := ⟨gb, 3, none⟩) (Kd.R_far (p := ⟨gb, 2, none⟩) (Kd.R_far (p := ⟨gb, 1, none⟩) (Kd.R_far (p := ⟨gb, 0, none⟩) (Kd.R_types HO2.out BK.out (by decide)) (fun _ hk => hk.2) _) (fun _ hk => hk.2) _) (fun _ hk => hk.2) _) (fun _ hk => hk.2) _) (fun _ hk => hk.2) _) (fun _ hk => hk.2) _) (fun _ _ => trivial)⟩, ⟨Kd.R_mono (Kd.R_far (p := ⟨gb, 5, none⟩) (Kd.R_far (p := ⟨gb, 4, none⟩) (Kd.R_far (p := ⟨gb, 3, none⟩) (Kd.R_far (p := ⟨gb, 2, none⟩) (Kd.R_far (p := ⟨gb, 1, none⟩) (Kd.R_far (p := ⟨gb, 0, none⟩) (Kd.R_types HW2.out BK.out (by decide)) (fun _ hk => hk.2) _) (fun _ hk => hk.2) _) (fun _ hk => hk.2) _) (fun _ hk => hk.2) _) (fun _ hk => hk.2) _) (fun _ hk => hk.2) _) (fun _ _ => trivial)⟩, ⟨below_set (below_set (below_set (below_set (below_set (below_set hb2 hg) hg) hg) hg) hg) hg⟩, ⟨blk_put (blk_put (blk_put (blk_put (blk_put (blk_put BK.out 0 (.int .i16 X.f0) rfl) 1 (.int .i16 X.f1) rfl) 2 (.int .i16 X.f2) rfl) 3 (.int .i16 X.f3) rfl) 4 (.int .i16 X.f4) rfl) 5 (.int .i8 X.f5) rfl⟩⟩
            have FK := Aside0.mk BK6
            clear BK6
            cases q with
            | false =>
              obtain rfl := Option.some.inj (show some acc = some acc' by have := HACC.out; simpa using this)
              clear HACC
              go_wp2_with (first
                | ((with_reducible refine gate_dst (N := 14) rfl ?_); refine box_event ?hg (N := 14) ?hd (cs := #[.int .i16 0, .int .i16 0, .int .i16 0, .int .i16 0, .int .i16 0, .int .i8 0]) (t := 38) ?hr ?_; (case hd => rfl); (case hg => rfl); (case hr => first | (go_simp; done) | (go_simp; rfl)); intro gb hg w26 hbox hb; (have HO2 := Aside0.mk (Kd.R_below HO.out hb)); (have HW2 := Aside0.mk (Kd.R_below HW.out hb)); (have HB2 := Aside0.mk (below_step HB.out hb)); (have GW := Aside0.mk (show w.heap.size ≤ gb by omega)); (have BK := Aside0.mk hbox); clear hb hg HO HW HB; (have hcz0 : w26.cell? ⟨gb, 0, none⟩ = some (.int .i16 0) := (blk_cell BK.out 0).trans rfl); (have hcz1 : w26.cell? ⟨gb, 1, none⟩ = some (.int .i16 0) := (blk_cell BK.out 1).trans rfl); (have hcz2 : w26.cell? ⟨gb, 2, none⟩ = some (.int .i16 0) := (blk_cell BK.out 2).trans rfl); (have hcz3 : w26.cell? ⟨gb, 3, none⟩ = some (.int .i16 0) := (blk_cell BK.out 3).trans rfl); (have hcz4 : w26.cell? ⟨gb, 4, none⟩ = some (.int .i16 0) := (blk_cell BK.out 4).trans rfl); (have hcz5 : w26.cell? ⟨gb, 5, none⟩ = some (.int .i8 0) := (blk_cell BK.out 5).trans rfl); (have hfz0 := blk_frozen BK.out 0; have hfz1 := blk_frozen BK.out 1; have hfz2 := blk_frozen BK.out 2; have hfz3 := blk_frozen BK.out 3; have hfz4 := blk_frozen BK.out 4; have hfz5 := blk_frozen BK.out 5); clear hbox)
                | ((with_reducible refine gate_store (t := 38) (p := 14) rfl ?_); refine store_event (t := 38) (p := 14) (v := ?vo) (w1 := ((((((w26.setCell ⟨gb, 0, none⟩ (.int .i16 X.f0)).setCell ⟨gb, 1, none⟩ (.int .i16 X.f1)).setCell ⟨gb, 2, none⟩ (.int .i16 X.f2)).setCell ⟨gb, 3, none⟩ (.int .i16 X.f3)).setCell ⟨gb, 4, none⟩ (.int .i16 X.f4)).setCell ⟨gb, 5, none⟩ (.int .i8 X.f5))) ?hg ?ho ?hn ?hr ?_; (case ho => rfl); (case hg => rfl); (case hn => rfl); (case hr => first | (go_simp; done) | (go_simp; rfl)); intro w27 hw27; obtain ⟨HO6, HW6, HB6, BK6⟩ := FK.out w26 gb BK.out HO2 HW2 HB2.out GW.out; (rw [← hw27] at HO6 HW6 HB6 BK6); clear hw27 HO2 HW2 HB2 FK BK hcz0 hcz1 hcz2 hcz3 hcz4 hcz5 hfz0 hfz1 hfz2 hfz3 hfz4 hfz5 h0 h1 h2 h3 h4 h5; (have hcbk60 : w27.cell? ⟨gb, 0, none⟩ = some (.int .i16 X.f0) := (blk_cell BK6.out 0).trans rfl); (have hcbk61 : w27.cell? ⟨gb, 1, none⟩ = some (.int .i16 X.f1) := (blk_cell BK6.out 1).trans rfl); (have hcbk62 : w27.cell? ⟨gb, 2, none⟩ = some (.int .i16 X.f2) := (blk_cell BK6.out 2).trans rfl); (have hcbk63 : w27.cell? ⟨gb, 3, none⟩ = some (.int .i16 X.f3) := (blk_cell BK6.out 3).trans rfl); (have hcbk64 : w27.cell? ⟨gb, 4, none⟩ = some (.int .i16 X.f4) := (blk_cell BK6.out 4).trans rfl); (have hcbk65 : w27.cell? ⟨gb, 5, none⟩ = some (.int .i8 X.f5) := (blk_cell BK6.out 5).trans rfl); (have hfbk65 := blk_frozen BK6.out 5))
                | ((with_reducible refine gate_store (t := 36) (p := 58) rfl ?_); refine store_event (t := 36) (p := 58) (v := ?vo2) (w1 := (w27.setCell ⟨gb, 5, none⟩ (.int .i8 (IntKind.i8.wrap (-X.f5))))) ?hg ?ho ?hn ?hr ?_; (case ho => rfl); (case hg => rfl); (case hn => rfl); (case hr => first | (go_simp; done) | (go_simp; rfl)); intro w28 hw28; (have HO7 := Aside0.mk (show Kd.R k40 40 w28 w.heap.size (fun _ => True) u10 acc by rw [hw28]; exact Kd.R_mono (Kd.R_far (p := ⟨gb, 5, none⟩) (Kd.R_types HO6.out BK6.out (by decide)) (fun _ hk => hk.2) _) (fun _ _ => trivial))); (have HW7 := Aside0.mk (show Kd.R (Kd.int .u8) 5 w28 w.heap.size (fun _ => True) (.slice A4 row.length c4) row by rw [hw28]; exact Kd.R_mono (Kd.R_far (p := ⟨gb, 5, none⟩) (Kd.R_types HW6.out BK6.out (by decide)) (fun _ hk => hk.2) _) (fun _ _ => trivial))); (have HB7 := Aside0.mk (show Below w.heap.size w w28 by rw [hw28]; exact below_set HB6.out GW.out)); (have BK7 := Aside0.mk (show w28.heap[gb]? = some (.cells #[.int .i16 X.f0, .int .i16 X.f1, .int .i16 X.f2, .int .i16 X.f3, .int .i16 X.f4, .int .i8 (IntKind.i8.wrap (-X.f5))] 38 (0, 0)) by rw [hw28]; exact blk_put BK6.out 5 _ rfl)); clear hw28 HO6 HW6 HB6 BK6 hcbk60 hcbk61 hcbk62 hcbk63 hcbk64 hcbk65 hfbk65; (have hcbk70 : w28.cell? ⟨gb, 0, none⟩ = some (.int .i16 X.f0) := (blk_cell BK7.out 0).trans rfl); (have hcbk71 : w28.cell? ⟨gb, 1, none⟩ = some (.int .i16 X.f1) := (blk_cell BK7.out 1).trans rfl); (have hcbk72 : w28.cell? ⟨gb, 2, none⟩ = some (.int .i16 X.f2) := (blk_cell BK7.out 2).trans rfl); (have hcbk73 : w28.cell? ⟨gb, 3, none⟩ = some (.int .i16 X.f3) := (blk_cell BK7.out 3).trans rfl); (have hcbk74 : w28.cell? ⟨gb, 4, none⟩ = some (.int .i16 X.f4) := (blk_cell BK7.out 4).trans rfl); (have hcbk75 : w28.cell? ⟨gb, 5, none⟩ = some (.int .i8 (IntKind.i8.wrap (-X.f5))) := (blk_cell BK7.out 5).trans rfl); (have hfbk75 := blk_frozen BK7.out 5))
                | (go_at_call 76; refine (spec_l05Turned.calls k A4 c4 row _ _ _ _ _ _ 1 wo _ (Kd.R_reads' HW7.out).2.2 (Kd.R_reads' HW7.out).2.1 HWO.out).mono ?_; rintro e w7 ⟨v7, rfl, ho7, hb7⟩; obtain ⟨A7, c7, rfl⟩ := Kd.R_slice ho7; (have HS7 := Aside0.mk ho7); (have HO8 := Aside0.mk (Kd.R_below HO7.out hb7)); (have HW8 := Aside0.mk (Kd.R_below HW7.out hb7)); (have HB8 := Aside0.mk (below_step HB7.out hb7)); clear ho7 hb7 HO7 HW7 HB7 BK7 hcbk70 hcbk71 hcbk72 hcbk73 hcbk74 hcbk75 hfbk75)
                | (go_at_call 20; refine (spec_SameRow.calls k A7 c7 wo A3 c3 l3 _ _ (Kd.R_reads' HS7.out).2.2 (Kd.R_reads' HS7.out).2.1 (Kd.C_below HR3.out HB8.out) HC3.out HQ.out).mono ?_; rintro e w8 ⟨rfl, ⟨nd, rfl⟩⟩))
              go_roundw
              case rel => exact ⟨i + 1, acc, by omega, by have := HD.out; go_num, ⟨by simpa using HF'.out⟩, ⟨by have := HLA.out; have := HD.out; omega⟩, ⟨Kd.R_drewN HO8.out _⟩, ⟨Kd.R_drewN HW8.out _⟩, ⟨pw_below_drewN HB8.out _⟩⟩
              case measure => have := HD.out; simp [intOf]; omega
            | true =>
              have HACC2 := Aside0.mk (show spec_missDays X (i : Int) (a2 + 1 - 0).toNat 0 acc = some acc' by have := HACC.out; simpa using this)
              clear HACC
              go_wp2_with (first
                | ((with_reducible refine gate_dst (N := 14) rfl ?_); refine box_event ?hg (N := 14) ?hd (cs := #[.int .i16 0, .int .i16 0, .int .i16 0, .int .i16 0, .int .i16 0, .int .i8 0]) (t := 38) ?hr ?_; (case hd => rfl); (case hg => rfl); (case hr => first | (go_simp; done) | (go_simp; rfl)); intro gb hg w26 hbox hb; (have HO2 := Aside0.mk (Kd.R_below HO.out hb)); (have HW2 := Aside0.mk (Kd.R_below HW.out hb)); (have HB2 := Aside0.mk (below_step HB.out hb)); (have GW := Aside0.mk (show w.heap.size ≤ gb by omega)); (have BK := Aside0.mk hbox); clear hb hg HO HW HB; (have hcz0 : w26.cell? ⟨gb, 0, none⟩ = some (.int .i16 0) := (blk_cell BK.out 0).trans rfl); (have hcz1 : w26.cell? ⟨gb, 1, none⟩ = some (.int .i16 0) := (blk_cell BK.out 1).trans rfl); (have hcz2 : w26.cell? ⟨gb, 2, none⟩ = some (.int .i16 0) := (blk_cell BK.out 2).trans rfl); (have hcz3 : w26.cell? ⟨gb, 3, none⟩ = some (.int .i16 0) := (blk_cell BK.out 3).trans rfl); (have hcz4 : w26.cell? ⟨gb, 4, none⟩ = some (.int .i16 0) := (blk_cell BK.out 4).trans rfl); (have hcz5 : w26.cell? ⟨gb, 5, none⟩ = some (.int .i8 0) := (blk_cell BK.out 5).trans rfl); (have hfz0 := blk_frozen BK.out 0; have hfz1 := blk_frozen BK.out 1; have hfz2 := blk_frozen BK.out 2; have hfz3 := blk_frozen BK.out 3; have hfz4 := blk_frozen BK.out 4; have hfz5 := blk_frozen BK.out 5); clear hbox)
                | ((with_reducible refine gate_store (t := 38) (p := 14) rfl ?_); refine store_event (t := 38) (p := 14) (v := ?vo) (w1 := ((((((w26.setCell ⟨gb, 0, none⟩ (.int .i16 X.f0)).setCell ⟨gb, 1, none⟩ (.int .i16 X.f1)).setCell ⟨gb, 2, none⟩ (.int .i16 X.f2)).setCell ⟨gb, 3, none⟩ (.int .i16 X.f3)).setCell ⟨gb, 4, none⟩ (.int .i16 X.f4)).setCell ⟨gb, 5, none⟩ (.int .i8 X.f5))) ?hg ?ho ?hn ?hr ?_; (case ho => rfl); (case hg => rfl); (case hn => rfl); (case hr => first | (go_simp; done) | (go_simp; rfl)); intro w27 hw27; obtain ⟨HO6, HW6, HB6, BK6⟩ := FK.out w26 gb BK.out HO2 HW2 HB2.out GW.out; (rw [← hw27] at HO6 HW6 HB6 BK6); clear hw27 HO2 HW2 HB2 FK BK hcz0 hcz1 hcz2 hcz3 hcz4 hcz5 hfz0 hfz1 hfz2 hfz3 hfz4 hfz5 h0 h1 h2 h3 h4 h5; (have hcbk60 : w27.cell? ⟨gb, 0, none⟩ = some (.int .i16 X.f0) := (blk_cell BK6.out 0).trans rfl); (have hcbk61 : w27.cell? ⟨gb, 1, none⟩ = some (.int .i16 X.f1) := (blk_cell BK6.out 1).trans rfl); (have hcbk62 : w27.cell? ⟨gb, 2, none⟩ = some (.int .i16 X.f2) := (blk_cell BK6.out 2).trans rfl); (have hcbk63 : w27.cell? ⟨gb, 3, none⟩ = some (.int .i16 X.f3) := (blk_cell BK6.out 3).trans rfl); (have hcbk64 : w27.cell? ⟨gb, 4, none⟩ = some (.int .i16 X.f4) := (blk_cell BK6.out 4).trans rfl); (have hcbk65 : w27.cell? ⟨gb, 5, none⟩ = some (.int .i8 X.f5) := (blk_cell BK6.out 5).trans rfl); (have hfbk65 := blk_frozen BK6.out 5))
                | ((with_reducible refine gate_store (t := 36) (p := 58) rfl ?_); refine store_event (t := 36) (p := 58) (v := ?vo2) (w1 := (w27.setCell ⟨gb, 5, none⟩ (.int .i8 (IntKind.i8.wrap (-X.f5))))) ?hg ?ho ?hn ?hr ?_; (case ho => rfl); (case hg => rfl); (case hn => rfl); (case hr => first | (go_simp; done) | (go_simp; rfl)); intro w28 hw28; (have HO7 := Aside0.mk (show Kd.R k40 40 w28 w.heap.size (fun _ => True) u10 acc by rw [hw28]; exact Kd.R_mono (Kd.R_far (p := ⟨gb, 5, none⟩) (Kd.R_types HO6.out BK6.out (by decide)) (fun _ hk => hk.2) _) (fun _ _ => trivial))); (have HW7 := Aside0.mk (show Kd.R (Kd.int .u8) 5 w28 w.heap.size (fun _ => True) (.slice A4 row.length c4) row by rw [hw28]; exact Kd.R_mono (Kd.R_far (p := ⟨gb, 5, none⟩) (Kd.R_types HW6.out BK6.out (by decide)) (fun _ hk => hk.2) _) (fun _ _ => trivial))); (have HB7 := Aside0.mk (show Below w.heap.size w w28 by rw [hw28]; exact below_set HB6.out GW.out)); (have BK7 := Aside0.mk (show w28.heap[gb]? = some (.cells #[.int .i16 X.f0, .int .i16 X.f1, .int .i16 X.f2, .int .i16 X.f3, .int .i16 X.f4, .int .i8 (IntKind.i8.wrap (-X.f5))] 38 (0, 0)) by rw [hw28]; exact blk_put BK6.out 5 _ rfl)); clear hw28 HO6 HW6 HB6 BK6 hcbk60 hcbk61 hcbk62 hcbk63 hcbk64 hcbk65 hfbk65; (have hcbk70 : w28.cell? ⟨gb, 0, none⟩ = some (.int .i16 X.f0) := (blk_cell BK7.out 0).trans rfl); (have hcbk71 : w28.cell? ⟨gb, 1, none⟩ = some (.int .i16 X.f1) := (blk_cell BK7.out 1).trans rfl); (have hcbk72 : w28.cell? ⟨gb, 2, none⟩ = some (.int .i16 X.f2) := (blk_cell BK7.out 2).trans rfl); (have hcbk73 : w28.cell? ⟨gb, 3, none⟩ = some (.int .i16 X.f3) := (blk_cell BK7.out 3).trans rfl); (have hcbk74 : w28.cell? ⟨gb, 4, none⟩ = some (.int .i16 X.f4) := (blk_cell BK7.out 4).trans rfl); (have hcbk75 : w28.cell? ⟨gb, 5, none⟩ = some (.int .i8 (IntKind.i8.wrap (-X.f5))) := (blk_cell BK7.out 5).trans rfl); (have hfbk75 := blk_frozen BK7.out 5))
                | (go_at_call 76; refine (spec_l05Turned.calls k A4 c4 row _ _ _ _ _ _ 1 wo _ (Kd.R_reads' HW7.out).2.2 (Kd.R_reads' HW7.out).2.1 HWO.out).mono ?_; rintro e w7 ⟨v7, rfl, ho7, hb7⟩; obtain ⟨A7, c7, rfl⟩ := Kd.R_slice ho7; (have HS7 := Aside0.mk ho7); (have HO8 := Aside0.mk (Kd.R_below HO7.out hb7)); (have HW8 := Aside0.mk (Kd.R_below HW7.out hb7)); (have HB8 := Aside0.mk (below_step HB7.out hb7)); clear ho7 hb7 HO7 HW7 HB7 BK7 hcbk70 hcbk71 hcbk72 hcbk73 hcbk74 hcbk75 hfbk75)
                | (go_at_call 20; refine (spec_SameRow.calls k A7 c7 wo A3 c3 l3 _ _ (Kd.R_reads' HS7.out).2.2 (Kd.R_reads' HS7.out).2.1 (Kd.C_below HR3.out HB8.out) HC3.out HQ.out).mono ?_; rintro e w8 ⟨rfl, ⟨nd, rfl⟩⟩))
              go_loopw [10, 15] (fun v10 v15 w' => ∃ (d : Int) (ac : List S40), 0 ≤ d ∧ d ≤ a2 + 1 ∧ v15 = .int .i64 d ∧ Aside0 (spec_missDays X (i : Int) (a2 + 1 - d).toNat d ac = some acc') ∧ Aside0 ((ac.length : Int) ≤ 1000 * i + d) ∧ Aside0 (Kd.R k40 40 w' w.heap.size (fun _ => True) v10 ac) ∧ Aside0 (Kd.R (Kd.int .u8) 5 w' w.heap.size (fun _ => True) (.slice A4 row.length c4) row) ∧ Aside0 (Below w.heap.size w w')) (fun _ v15 _ => (a2 + 1 - intOf v15).toNat)
              case atStart => exact ⟨0, acc, by omega, by omega, rfl, HACC2, ⟨by have := HLA.out; have := HD.out; omega⟩, ⟨Kd.R_drewN HO8.out _⟩, ⟨Kd.R_drewN HW8.out _⟩, ⟨pw_below_drewN HB8.out _⟩⟩
              case round =>
                clear HACC2 HO8 HW8 HB8 HS7
                obtain ⟨d, ac, hd0', hd1', rfl, HM, HAL, HO, HW, HB⟩ := hrel
                obtain ⟨wq, rfl⟩ : ∃ wo : World, wo = wr := ⟨_, rfl⟩
                by_cases hle : d ≤ a2
                · have hM := HM.out
                  rw [show (a2 + 1 - d).toNat = (a2 + 1 - (d + 1)).toNat + 1 by omega] at hM
                  obtain ⟨b, hb, hM2⟩ := Option.bind_eq_some_iff.mp hM
                  have HBB := Aside0.mk hb
                  have HM2 := Aside0.mk hM2
                  clear hb hM hM2 HM
                  have q2 := eq_true hle
                  have hdd : d ≤ 400 := by have := HD.out; omega
                  obtain ⟨ad', e', g0, g1, g2, g3, g4, g5⟩ := at_T38 (Kd.C_below HR1.out HB.out) (i : Int) (by omega) (by omega)
                  cases e'
                  rw [HXE.out] at g0 g1 g2 g3 g4 g5
                  simp only [Int.toNat_natCast] at g0 g1 g2 g3 g4 g5
                  have q5 := eq_true (show i < l1.length from hlt)
                  cases b with
                  | false =>
                    go_wp2_with (go_at_call 77; refine (spec_l05On.calls _ _ _ _ _ _ _ _ _ HBB.out).mono ?_; rintro e w9 ⟨rfl, hb9⟩; (have HO9 := Aside0.mk (Kd.R_below HO.out hb9)); (have HW9 := Aside0.mk (Kd.R_below HW.out hb9)); (have HB9 := Aside0.mk (below_step HB.out hb9)); clear hb9 HO HW HB g0 g1 g2 g3 g4 g5)
                    go_roundw
                    case rel => exact ⟨d + 1, ac, by omega, by omega, by have := HD.out; go_num, ⟨by simpa using HM2.out⟩, ⟨by have := HAL.out; have := HD.out; omega⟩, HO9, HW9, HB9⟩
                    case measure => have := HD.out; simp [intOf]; omega
                  | true =>
                    go_wp2_with (first
                      | (go_at_call 77; refine (spec_l05On.calls _ _ _ _ _ _ _ _ _ HBB.out).mono ?_; rintro e w9 ⟨rfl, hb9⟩; (have HO9 := Aside0.mk (Kd.R_below HO.out hb9)); (have HW9 := Aside0.mk (Kd.R_below HW.out hb9)); (have HB9 := Aside0.mk (below_step HB.out hb9)); clear hb9 HO HW HB g0 g1 g2 g3 g4 g5)
                      | (at_builtin; refine Kd.R_append k40 (w0 := w) w.heap.size rfl (.tmp 76) (.tmp 80) 31 40 (.agg #[(.int .i64 0), (.int .i64 0)]) 16 rfl Try.underlying31 info40 rfl (by decide) (by omega) _ ac (⟨(i : Int), d⟩ : S40) [.int .i64 (i : Int), .int .i64 d] (fun _ => True) (fun _ => False) rfl rfl (k40_mkM _ _ _ (⟨(i : Int), d⟩ : S40)) (fun _ hk => hk.elim) (fun _ _ => trivial) HO9.out HB9.out HB9.out.size (by have := HAL.out; have := HD.out; omega) ?_; intro v81 w81 ho81 hb81 hg81 _; (have HO10 := Aside0.mk ho81); (have HB10 := Aside0.mk hb81); (have HW10 := Aside0.mk (Kd.R_over' HW9.out (Kd.R_typed HO9.out) (by decide) hg81)); clear ho81 hb81 hg81 HO9 HB9 HW9))
                    go_roundw
                    case rel => exact ⟨d + 1, ac ++ [⟨(i : Int), d⟩], by omega, by omega, by have := HD.out; go_num, ⟨by simpa using HM2.out⟩, ⟨by have := HAL.out; have := HD.out; simp; omega⟩, HO10, HW10, HB10⟩
                    case measure => have := HD.out; simp [intOf]; omega
                · have hM := HM.out
                  rw [show (a2 + 1 - d).toNat = 0 by omega] at hM
                  obtain rfl := Option.some.inj hM
                  have q2 : (d ≤ a2) = False := eq_false hle
                  clear hM HM
                  go_wp2
                  go_roundw
                  case rel => exact ⟨i + 1, ac, by omega, by have := HD.out; go_num, ⟨by simpa using HF'.out⟩, ⟨by have := HAL.out; have := HD.out; omega⟩, HO, HW, HB⟩
                  case measure => have := HD.out; simp [intOf]; omega
          · have hF := HF.out
            rw [List.drop_eq_nil_of_le (by omega)] at hF
            obtain rfl := Option.some.inj hF
            have q1 : ((i : Int) < (l1.length : Int)) = False := eq_false (by omega)
            clear hF HF
            go_wp2
            go_ret2
            exact ⟨_, rfl, HO.out, HB.out⟩
    exact hmain
end Go.Proofs.Ytmheflciiodhdaa.P
-- Written by wip/tools/mkprint.py of this repo, over the kit's print, out of the translation; Lean checks it.
namespace Go.Proofs.Ytmheflciiodhdaa.P
open Go.RowKit Go.Proofs.YtmheflciiodhdaaW.PrintWords Go.Proofs.YtmheflciiodhdaaW.PrintLast Go.Proofs.YtmheflciiodhdaaW.PrintMore
attribute [local go_sem] max2_int min2_int max_two min_two max_three min_three max_four min_four   -- for this text's walks alone
set_option linter.unusedVariables false
set_option linter.unusedSimpArgs false
/-! ### impl_Row_uint8_73: function 73 -/
def impl_Row_uint8_73.l0 : Nat → List Int → List Int → Int → Int → Option (Bool)
  | 0, _, _, _, _ => none
  | k + 1, x0, x1, x12, x13 => if x13 < x12 then (if 0 ≤ x13 then (if x13 < (x0.length : Int) then (if x13 < (x1.length : Int) then (if (rd x0 x13) = (rd x1 x13) then (impl_Row_uint8_73.l0 k x0 x1 x12 (wrap64 (x13 + 1))) else (some false)) else (none)) else (none)) else (none)) else (some true)
def impl_Row_uint8_73.f (k : Nat) (l0 : List Int) (l1 : List Int) : Option (Bool) := if (l0.length : Int) = (l1.length : Int) then (impl_Row_uint8_73.l0 k l0 l1 (l0.length : Int) 0) else (some false)
theorem impl_Row_uint8_73.mono_l : ∀ k, (∀ y0 y1 y2 y3, LeO (impl_Row_uint8_73.l0 k y0 y1 y2 y3) (impl_Row_uint8_73.l0 (k + 1) y0 y1 y2 y3))
  | 0 => fun _ _ _ _ r h => by simp [impl_Row_uint8_73.l0] at h
  | k + 1 => by
    have ih0 := impl_Row_uint8_73.mono_l k
    · intro y0 y1 y2 y3
      unfold impl_Row_uint8_73.l0
      repeat' first
      | (with_reducible exact ih0 _ _ _ _)
      | (with_reducible exact LeO.refl _)
      | (with_reducible exact LeO.none _)
      | (with_reducible refine LeO.ite ?_ ?_)
      | (with_reducible refine LeO.bind ?_ (fun _ => ?_))
      | exact ih0 _ _ _ _
      | exact LeO.none _
      | refine LeO.ite ?_ ?_
      | refine LeO.bind ?_ (fun _ => ?_)
theorem impl_Row_uint8_73.mono : ∀ a0 a1 k, LeO (impl_Row_uint8_73.f k a0 a1) (impl_Row_uint8_73.f (k + 1) a0 a1) := by
  intro a0 a1 k
  have ih0 := impl_Row_uint8_73.mono_l k
  unfold impl_Row_uint8_73.f
  repeat' first
      | (with_reducible exact ih0 _ _ _ _)
      | (with_reducible exact LeO.refl _)
      | (with_reducible exact LeO.none _)
      | (with_reducible refine LeO.ite ?_ ?_)
      | (with_reducible refine LeO.bind ?_ (fun _ => ?_))
      | exact ih0 _ _ _ _
      | exact LeO.none _
      | refine LeO.ite ?_ ?_
      | refine LeO.bind ?_ (fun _ => ?_)
set_option maxHeartbeats 8000000 in
set_option maxRecDepth 100000 in
theorem impl_Row_uint8_73.calls (k : Nat) (A0 : Option Addr) (c0 : Nat) (l0 : List Int) (A1 : Option Addr) (c1 : Nat) (l1 : List Int) (r : Bool) (w : World) (hr0 : Kd.C (Kd.int .u8) w A0 l0.length l0) (hc0 : l0.length ≤ c0) (hr1 : Kd.C (Kd.int .u8) w A1 l1.length l1) (hc1 : l1.length ≤ c1) (h : impl_Row_uint8_73.f k l0 l1 = some r) :
    Calls Try.prog 73 #[.slice A0 l0.length c0, .slice A1 l1.length c1] w fun e w' => e = .returned (.bool r) ∧ Drawn0 w w' := by
  have HR0 := Aside0.mk hr0
  have HC0 := Aside0.mk hc0
  clear hr0 hc0
  have HR1 := Aside0.mk hr1
  have HC1 := Aside0.mk hc1
  clear hr1 hc1
  have H : (if (l0.length : Int) = (l1.length : Int) then (impl_Row_uint8_73.l0 k l0 l1 (l0.length : Int) 0) else (some false)) = some r := h
  clear h
  by_cases c3 : (l0.length : Int) = (l1.length : Int)
  · rw [if_pos c3] at H
    have c3b0 : ((l0.length : Int) == (l1.length : Int)) = true := beq_iff_eq.mpr c3
    have c3b1 : ((l0.length : Int) != (l1.length : Int)) = false := bne_eq_false_iff_eq.mpr c3
    have c3b2 : (l0.length == l1.length) = true := by first | simpa using c3 | (simp at c3 ⊢; omega)
    clear c3
    have H' := Aside0.mk H
    clear H
    go_enter Try.func73, Try.ntmps73
    go_wp2
    repeat (go_quiet (fail); try go_wp2)
    go_loopg [13] k (fun kq v13 w' => ∃ (x13_1 : Int), v13 = .int .i64 x13_1 ∧ Aside0 (impl_Row_uint8_73.l0 kq l0 l1 (l0.length : Int) x13_1 = some r) ∧ Aside0 (kq ≤ k) ∧ Drawn0 w w')
    case atStart => exact ⟨(0), (by first | rfl | (simp; done) | (simp [*]; done)), H', ⟨Nat.le_refl _⟩, by repeat (first | exact Drawn0.refl _ | apply Drawn0.step)⟩
    case round =>
      clear H'
      try clear c1
      try clear p2
      try clear c3
      try clear c3b0
      try clear c3b1
      try clear c3b2
      obtain ⟨x13_1, rfl, HA, HK1, ⟨m1, rfl⟩⟩ := hrel
      cases gk with
      | zero => exact absurd HA.out (by simp [impl_Row_uint8_73.l0])
      | succ k1 =>
        have H := HA.out
        clear HA
        simp only [impl_Row_uint8_73.l0] at H
        by_cases c4 : x13_1 < (l0.length : Int)
        · rw [if_pos c4] at H
          have c4b0 : decide (x13_1 < (l0.length : Int)) = true := decide_eq_true c4
          clear c4
          by_cases c5 : 0 ≤ x13_1
          · rw [if_pos c5] at H
            have c5b0 : decide (0 ≤ x13_1) = true := decide_eq_true c5
            clear c5
            by_cases c6 : x13_1 < (l0.length : Int)
            · rw [if_pos c6] at H
              have c6b0 : decide (x13_1 < (l0.length : Int)) = true := decide_eq_true c6
              clear c6
              by_cases c7 : x13_1 < (l1.length : Int)
              · rw [if_pos c7] at H
                have c7b0 : decide (x13_1 < (l1.length : Int)) = true := decide_eq_true c7
                clear c7
                by_cases c8 : (rd l0 x13_1) = (rd l1 x13_1)
                · rw [if_pos c8] at H
                  have c8b0 : ((rd l0 x13_1) == (rd l1 x13_1)) = true := beq_iff_eq.mpr c8
                  have c8b1 : ((rd l0 x13_1) != (rd l1 x13_1)) = false := bne_eq_false_iff_eq.mpr c8
                  clear c8
                  have H' := Aside0.mk H
                  clear H
                  have p250 : 0 ≤ (x13_1 : Int) := of_decide_eq_true (by first | (with_reducible assumption) | assumption)
                  have q250 : x13_1 < (l0.length : Int) := of_decide_eq_true (by first | (with_reducible assumption) | assumption)
                  obtain ⟨ad250, e250, hx250_0⟩ := Kd.at_int HR0.out x13_1 p250 q250
                  cases e250
                  replace p250 := eq_true p250
                  replace q250 := eq_true q250
                  have p251 : 0 ≤ (x13_1 : Int) := of_decide_eq_true (by first | (with_reducible assumption) | assumption)
                  have q251 : x13_1 < (l1.length : Int) := of_decide_eq_true (by first | (with_reducible assumption) | assumption)
                  obtain ⟨ad251, e251, hx251_0⟩ := Kd.at_int HR1.out x13_1 p251 q251
                  cases e251
                  replace p251 := eq_true p251
                  replace q251 := eq_true q251
                  go_wp2
                  repeat (go_quiet (fail); try go_wp2)
                  go_roundg k1
                  case measure => have := HK1.out; omega
                  case rel => exact ⟨(wrap64 (x13_1 + 1)), (by first | rfl | (simp; done) | (simp [*]; done)), H', ⟨by have := HK1.out; omega⟩, by repeat (first | exact Drawn0.refl _ | apply Drawn0.step)⟩
                · rw [if_neg c8] at H
                  have c8b0 : ((rd l0 x13_1) == (rd l1 x13_1)) = false := beq_eq_false_iff_ne.mpr c8
                  have c8b1 : ((rd l0 x13_1) != (rd l1 x13_1)) = true := bne_iff_ne.mpr c8
                  obtain rfl := Option.some.inj H
                  have p250 : 0 ≤ (x13_1 : Int) := of_decide_eq_true (by first | (with_reducible assumption) | assumption)
                  have q250 : x13_1 < (l0.length : Int) := of_decide_eq_true (by first | (with_reducible assumption) | assumption)
                  obtain ⟨ad250, e250, hx250_0⟩ := Kd.at_int HR0.out x13_1 p250 q250
                  cases e250
                  replace p250 := eq_true p250
                  replace q250 := eq_true q250
                  have p251 : 0 ≤ (x13_1 : Int) := of_decide_eq_true (by first | (with_reducible assumption) | assumption)
                  have q251 : x13_1 < (l1.length : Int) := of_decide_eq_true (by first | (with_reducible assumption) | assumption)
                  obtain ⟨ad251, e251, hx251_0⟩ := Kd.at_int HR1.out x13_1 p251 q251
                  cases e251
                  replace p251 := eq_true p251
                  replace q251 := eq_true q251
                  go_wp2
                  repeat (go_quiet (fail); try go_wp2)
                  go_ret
                  exact ⟨by first | rfl | (simp; done) | (simp [*]; done), by repeat (first | exact Drawn0.refl _ | apply Drawn0.step)⟩
              · rw [if_neg c7] at H
                exact absurd H (by simp)
            · rw [if_neg c6] at H
              exact absurd H (by simp)
          · rw [if_neg c5] at H
            exact absurd H (by simp)
        · rw [if_neg c4] at H
          have c4b0 : decide (x13_1 < (l0.length : Int)) = false := decide_eq_false c4
          clear c4
          obtain rfl := Option.some.inj H
          go_wp2
          repeat (go_quiet (fail); try go_wp2)
          go_ret
          exact ⟨by first | rfl | (simp; done) | (simp [*]; done), by repeat (first | exact Drawn0.refl _ | apply Drawn0.step)⟩
  · rw [if_neg c3] at H
    have c3b0 : ((l0.length : Int) == (l1.length : Int)) = false := beq_eq_false_iff_ne.mpr c3
    have c3b1 : ((l0.length : Int) != (l1.length : Int)) = true := bne_iff_ne.mpr c3
    have c3b2 : (l0.length == l1.length) = false := by first | simpa using c3 | (simp at c3 ⊢; omega)
    obtain rfl := Option.some.inj H
    go_enter Try.func73, Try.ntmps73
    go_wp2
    repeat (go_quiet (fail); try go_wp2)
    go_ret
    exact ⟨by first | rfl | (simp; done) | (simp [*]; done), by repeat (first | exact Drawn0.refl _ | apply Drawn0.step)⟩
end Go.Proofs.Ytmheflciiodhdaa.P
-- Written by wip/tools/mkprint.py of this repo, over the kit's print, out of the translation; Lean checks it.
namespace Go.Proofs.Ytmheflciiodhdaa.P
open Go.RowKit Go.Proofs.YtmheflciiodhdaaW.PrintWords Go.Proofs.YtmheflciiodhdaaW.PrintLast Go.Proofs.YtmheflciiodhdaaW.PrintMore
attribute [local go_sem] max2_int min2_int max_two min_two max_three min_three max_four min_four   -- for this text's walks alone
set_option linter.unusedVariables false
set_option linter.unusedSimpArgs false
/-! ### impl_Walker_comes: function 74 -/
def impl_Walker_comes.f (a0_0 : Int) (a0_1 : Int) (a0_2 : Int) (a0_3 : Int) (a0_4 : Int) (a0_5 : Int) (a1 : Int) : Option (Bool) := if a1 ≥ (wrap64 (a0_0)) then (if (wrap64 (a0_1)) = 0 then (none) else (some ((Int.tmod (wrap64 (a1 - (wrap64 (a0_0)))) (wrap64 (a0_1))) == 0))) else (some false)
set_option maxHeartbeats 8000000 in
set_option maxRecDepth 100000 in
theorem impl_Walker_comes.calls (a0_0 : Int) (a0_1 : Int) (a0_2 : Int) (a0_3 : Int) (a0_4 : Int) (a0_5 : Int) (a1 : Int) (r : Bool) (w : World) (h : impl_Walker_comes.f a0_0 a0_1 a0_2 a0_3 a0_4 a0_5 a1 = some r) :
    Calls Try.prog 74 #[.agg #[.int .i16 a0_0, .int .i16 a0_1, .int .i16 a0_2, .int .i16 a0_3, .int .i16 a0_4, .int .i8 a0_5], .int .i64 a1] w fun e w' => e = .returned (.bool r) ∧ Below w.heap.size w w' := by
  have hu38 := Try.underlying38
  have HB := Aside0.mk (Below.refl w.heap.size w)
  have H : (if a1 ≥ (wrap64 (a0_0)) then (if (wrap64 (a0_1)) = 0 then (none) else (some ((Int.tmod (wrap64 (a1 - (wrap64 (a0_0)))) (wrap64 (a0_1))) == 0))) else (some false)) = some r := h
  clear h
  by_cases c3 : a1 ≥ (wrap64 (a0_0))
  · rw [if_pos c3] at H
    have c3b0 : decide ((wrap64 (a0_0)) ≤ a1) = true := decide_eq_true c3
    clear c3
    by_cases c4 : (wrap64 (a0_1)) = 0
    · rw [if_pos c4] at H
      exact absurd H (by simp)
    · rw [if_neg c4] at H
      have c4b0 : ((wrap64 (a0_1)) == 0) = false := beq_eq_false_iff_ne.mpr c4
      have c4b1 : ((wrap64 (a0_1)) != 0) = true := bne_iff_ne.mpr c4
      obtain rfl := Option.some.inj H
      go_enter Try.func74, Try.ntmps74
      go_wp2_with (first | ((with_reducible refine gate_dst (N := 2) rfl ?_); refine box_event ?hg (N := 2) ?hd (cs := #[.int .i16 a0_0, .int .i16 a0_1, .int .i16 a0_2, .int .i16 a0_3, .int .i16 a0_4, .int .i8 a0_5]) (t := 38) ?hr ?_; (case hd => rfl); (case hg => rfl); (case hr => first | (go_simp; done) | (go_simp; rfl)); intro gb252 hg w5 hbox hb; have n0_ := Aside0.mk (below_step (by repeat (first | (with_reducible first | exact HB.out | apply below_alloc | apply pw_below_drewN | apply below_drew1) | exact HB.out)) hb); have n1_ := Aside0.mk (hbox); have n2_ := Aside0.mk ((by rw [hg]; exact (below_size (by repeat (first | (with_reducible first | exact HB.out | apply below_alloc | apply pw_below_drewN | apply below_drew1) | exact HB.out))) : w.heap.size ≤ gb252)); have n3_ := Aside0.mk ((by rw [hg]; exact (below_size (by repeat (first | (with_reducible first | exact HB.out | apply below_alloc | apply pw_below_drewN | apply below_drew1) | exact HB.out))) : w.heap.size ≤ gb252)); clear HB; have HB := n0_; have BK252 := n1_; have GW252 := n2_; have GE252 := n3_; clear n0_ n1_ n2_ n3_; clear hb hbox hg; have hcz6_0 : w5.cell? ⟨gb252, 0, none⟩ = some (.int .i16 a0_0) := (blk_cell BK252.out 0).trans rfl; have hcz6_1 : w5.cell? ⟨gb252, 1, none⟩ = some (.int .i16 a0_1) := (blk_cell BK252.out 1).trans rfl; have hcz6_2 : w5.cell? ⟨gb252, 2, none⟩ = some (.int .i16 a0_2) := (blk_cell BK252.out 2).trans rfl; have hcz6_3 : w5.cell? ⟨gb252, 3, none⟩ = some (.int .i16 a0_3) := (blk_cell BK252.out 3).trans rfl; have hcz6_4 : w5.cell? ⟨gb252, 4, none⟩ = some (.int .i16 a0_4) := (blk_cell BK252.out 4).trans rfl; have hcz6_5 : w5.cell? ⟨gb252, 5, none⟩ = some (.int .i8 a0_5) := (blk_cell BK252.out 5).trans rfl; have hfz6_0 := blk_frozen BK252.out 0; have hfz6_1 := blk_frozen BK252.out 1; have hfz6_2 := blk_frozen BK252.out 2; have hfz6_3 := blk_frozen BK252.out 3; have hfz6_4 := blk_frozen BK252.out 4; have hfz6_5 := blk_frozen BK252.out 5))
      go_ret
      exact ⟨by first | rfl | (simp [errW_none, errW_some] <;> rfl) | (simp [*, errW_none, errW_some] <;> rfl), by repeat (first | (with_reducible first | exact HB.out | apply below_alloc | apply pw_below_drewN | apply below_drew1 | refine below_set ?_ GE252.out) | exact HB.out)⟩
  · rw [if_neg c3] at H
    have c3b0 : decide ((wrap64 (a0_0)) ≤ a1) = false := decide_eq_false c3
    clear c3
    obtain rfl := Option.some.inj H
    go_enter Try.func74, Try.ntmps74
    go_wp2_with (first | ((with_reducible refine gate_dst (N := 2) rfl ?_); refine box_event ?hg (N := 2) ?hd (cs := #[.int .i16 a0_0, .int .i16 a0_1, .int .i16 a0_2, .int .i16 a0_3, .int .i16 a0_4, .int .i8 a0_5]) (t := 38) ?hr ?_; (case hd => rfl); (case hg => rfl); (case hr => first | (go_simp; done) | (go_simp; rfl)); intro gb252 hg w7 hbox hb; have n0_ := Aside0.mk (below_step (by repeat (first | (with_reducible first | exact HB.out | apply below_alloc | apply pw_below_drewN | apply below_drew1) | exact HB.out)) hb); have n1_ := Aside0.mk (hbox); have n2_ := Aside0.mk ((by rw [hg]; exact (below_size (by repeat (first | (with_reducible first | exact HB.out | apply below_alloc | apply pw_below_drewN | apply below_drew1) | exact HB.out))) : w.heap.size ≤ gb252)); have n3_ := Aside0.mk ((by rw [hg]; exact (below_size (by repeat (first | (with_reducible first | exact HB.out | apply below_alloc | apply pw_below_drewN | apply below_drew1) | exact HB.out))) : w.heap.size ≤ gb252)); clear HB; have HB := n0_; have BK252 := n1_; have GW252 := n2_; have GE252 := n3_; clear n0_ n1_ n2_ n3_; clear hb hbox hg; have hcz8_0 : w7.cell? ⟨gb252, 0, none⟩ = some (.int .i16 a0_0) := (blk_cell BK252.out 0).trans rfl; have hcz8_1 : w7.cell? ⟨gb252, 1, none⟩ = some (.int .i16 a0_1) := (blk_cell BK252.out 1).trans rfl; have hcz8_2 : w7.cell? ⟨gb252, 2, none⟩ = some (.int .i16 a0_2) := (blk_cell BK252.out 2).trans rfl; have hcz8_3 : w7.cell? ⟨gb252, 3, none⟩ = some (.int .i16 a0_3) := (blk_cell BK252.out 3).trans rfl; have hcz8_4 : w7.cell? ⟨gb252, 4, none⟩ = some (.int .i16 a0_4) := (blk_cell BK252.out 4).trans rfl; have hcz8_5 : w7.cell? ⟨gb252, 5, none⟩ = some (.int .i8 a0_5) := (blk_cell BK252.out 5).trans rfl; have hfz8_0 := blk_frozen BK252.out 0; have hfz8_1 := blk_frozen BK252.out 1; have hfz8_2 := blk_frozen BK252.out 2; have hfz8_3 := blk_frozen BK252.out 3; have hfz8_4 := blk_frozen BK252.out 4; have hfz8_5 := blk_frozen BK252.out 5))
    go_ret
    exact ⟨by first | rfl | (simp [errW_none, errW_some] <;> rfl) | (simp [*, errW_none, errW_some] <;> rfl), by repeat (first | (with_reducible first | exact HB.out | apply below_alloc | apply pw_below_drewN | apply below_drew1 | refine below_set ?_ GE252.out) | exact HB.out)⟩
end Go.Proofs.Ytmheflciiodhdaa.P
-- Written by wip/tools/mkprint.py of this repo, over the kit's print, out of the translation; Lean checks it.
namespace Go.Proofs.Ytmheflciiodhdaa.P
open Go.RowKit Go.Proofs.YtmheflciiodhdaaW.PrintWords Go.Proofs.YtmheflciiodhdaaW.PrintLast Go.Proofs.YtmheflciiodhdaaW.PrintMore
attribute [local go_sem] max2_int min2_int max_two min_two max_three min_three max_four min_four   -- for this text's walks alone
set_option linter.unusedVariables false
set_option linter.unusedSimpArgs false
/-! ### impl_MissedWalks: given -/
theorem Missed_cnt (w : World) (xs : List S38) : CntW 72 #[] (fun _ => -1) xs w := by
  refine ⟨enters_of Try.func72 (by kernel_rfl) rfl, fun W hW x hm => ?_⟩
  show Calls Try.prog 72 #[encW x] W _
  have hu := Try.underlying38
  unfold encW
  go_enter Try.func72, Try.ntmps72
  go_wp2
  go_ret
  exact ⟨rfl, below_alloc (Below.refl _ _) _⟩
theorem C_oneW {w : World} {g : Nat} {x : S38} (h : w.heap[g]? = some (.cells #[.int .i16 x.f0, .int .i16 x.f1, .int .i16 x.f2, .int .i16 x.f3, .int .i16 x.f4, .int .i8 x.f5] 38 (0, 0))) : Kd.C k38 w (some ⟨g, 0, none⟩) [x].length [x] := by
  refine ⟨rfl, by simp, fun _ => ⟨_, rfl, fun j p hj => ?_⟩⟩
  match j, hj with
  | 0, hj =>
    obtain rfl : x = p := by simpa using hj
    refine ⟨_, k38.K_len (k38_mk w x), k38_mk w x, fun i u hi => ?_⟩
    have e : (⟨g, 0, none⟩ : Addr).add (0 * k38.sz + i) = ⟨g, i, none⟩ := by simp [Addr.add]; intro h; simp [h]
    rw [e, blk_cell h i]
    simpa using hi
theorem walked_one (k : Nat) (A0 : Option Addr) (c0 : Nat) (l0 : List Int) (g : Nat) (x : S38) (fid : Nat) (lb : Array Value) (f : S38 → Int) (r : List Int) (w : World)
    (hr0 : Kd.C (Kd.int .u8) w A0 l0.length l0) (hb : w.heap[g]? = some (.cells #[.int .i16 x.f0, .int .i16 x.f1, .int .i16 x.f2, .int .i16 x.f3, .int .i16 x.f4, .int .i8 x.f5] 38 (0, 0))) (hp : CntW fid lb f [x] w) (h : walkedF k l0 [x] f = some r) :
    Calls Try.prog 70 #[.slice A0 l0.length c0, .slice (some ⟨g, 0, none⟩) 1 1, .func (.func fid) #[] lb] w fun e w' => ∃ v0_ : Value, e = .returned (v0_) ∧ Kd.R (Kd.int .u8) 5 w' w.heap.size (fun _ => True) v0_ r ∧ Below w.heap.size w w' :=
  walked_calls k A0 c0 l0 (some ⟨g, 0, none⟩) 1 [x] fid lb f r w hr0 (C_oneW hb) hp h
def missDays (x : S38) (i : Int) : Nat → Int → List S40 → Option (List S40)
  | 0, _, acc => some acc
  | n + 1, d, acc => (impl_Walker_comes.f x.f0 x.f1 x.f2 x.f3 x.f4 x.f5 d).bind fun b => missDays x i n (d + 1) (if b = true then acc ++ [⟨i, d⟩] else acc)
def missAll (k : Nat) (l0 : List Int) (l1 : List S38) (day : Int) (seen : List Int) : List S38 → Int → List S40 → Option (List S40)
  | [], _, acc => some acc
  | x :: r, i, acc => (impl_rowOn.f k l0 l1 day).bind fun row => (walkedF k row [x] (fun _ => -1)).bind fun wo => (impl_Row_uint8_73.f k wo seen).bind fun q => (if q = true then missDays x i (day + 1).toNat 0 acc else some acc).bind fun acc' => missAll k l0 l1 day seen r (i + 1) acc'
def missCode (l0 : List Int) (l1 : List S38) (a2 : Int) (l3 : List Int) : Int := codeB (rowOkB l0 l1 && (validRow l3 && ((l3.length : Int) == (l0.length : Int)))) (inR 0 400 a2)
def impl_MissedWalks.f (k : Nat) (l0 : List Int) (l1 : List S38) (a2 : Int) (l3 : List Int) : Option (List S40 × Int) :=
  if missCode l0 l1 a2 l3 = 0 then (missAll k l0 l1 a2 l3 l1 0 []).bind fun r => some (r, 0) else some ([], missCode l0 l1 a2 l3)
theorem missAll_mono {l0 : List Int} {l1 : List S38} {day : Int} {seen : List Int} (k : Nat) : ∀ (r : List S38) (i : Int) (acc : List S40), LeO (missAll k l0 l1 day seen r i acc) (missAll (k + 1) l0 l1 day seen r i acc)
  | [], _, _ => LeO.refl _
  | _ :: r, _, _ => LeO.bind (impl_rowOn.mono _ _ _ k) (fun _ => LeO.bind (walkedF_mono k) (fun _ => LeO.bind (impl_Row_uint8_73.mono _ _ k) (fun _ => LeO.bind (LeO.refl _) (fun _ => missAll_mono k r _ _))))
theorem impl_MissedWalks.mono : ∀ a0 a1 a2 a3 k, LeO (impl_MissedWalks.f k a0 a1 a2 a3) (impl_MissedWalks.f (k + 1) a0 a1 a2 a3) := fun _ _ _ _ k => LeO.ite (LeO.bind (missAll_mono k _ _ _) (fun _ => LeO.refl _)) (LeO.refl _)
set_option maxHeartbeats 8000000 in
set_option maxRecDepth 100000 in
theorem impl_MissedWalks.calls (k : Nat) (A0 : Option Addr) (c0 : Nat) (l0 : List Int) (A1 : Option Addr) (c1 : Nat) (l1 : List S38) (a2 : Int) (A3 : Option Addr) (c3 : Nat) (l3 : List Int) (r1 : List S40) (r2 : Int) (w : World) (hr0 : Kd.C (Kd.int .u8) w A0 l0.length l0) (hc0 : l0.length ≤ c0) (hr1 : Kd.C k38 w A1 l1.length l1) (hc1 : l1.length ≤ c1) (hr3 : Kd.C (Kd.int .u8) w A3 l3.length l3) (hc3 : l3.length ≤ c3) (h : impl_MissedWalks.f k l0 l1 a2 l3 = some (r1, r2)) :
    Calls Try.prog 13 #[.slice A0 l0.length c0, .slice A1 l1.length c1, .int .i64 a2, .slice A3 l3.length c3] w fun e w' => ∃ v0_ : Value, e = .returned (.tuple #[v0_, .int .i64 r2]) ∧ Kd.R k40 40 w' w.heap.size (fun _ => True) v0_ r1 ∧ Below w.heap.size w w' := by
  have HR0 := Aside0.mk hr0
  have HR1 := Aside0.mk hr1
  have HR3 := Aside0.mk hr3
  have HC0 := Aside0.mk hc0
  have HC1 := Aside0.mk hc1
  have HC3 := Aside0.mk hc3
  have HB := Aside0.mk (Below.refl w.heap.size w)
  clear hr0 hr1 hr3 hc0 hc1 hc3
  have hu := Try.underlying38
  by_cases hcode : missCode l0 l1 a2 l3 = 0
  · unfold impl_MissedWalks.f at h
    rw [if_pos hcode] at h
    obtain ⟨r, hf, h2⟩ := Option.bind_eq_some_iff.mp h
    simp only [Option.some.injEq, Prod.mk.injEq] at h2
    obtain ⟨rfl, rfl⟩ := h2
    have HF := Aside0.mk hf
    have HCD := Aside0.mk (show impl_codeOf.f (rowOkB l0 l1 && (validRow l3 && ((l3.length : Int) == (l0.length : Int)))) (inR 0 400 a2) = some 0 by rw [codeOf_codeB]; exact congrArg some hcode)
    obtain ⟨hb1, hb2⟩ : (rowOkB l0 l1 && (validRow l3 && ((l3.length : Int) == (l0.length : Int)))) = true ∧ inR 0 400 a2 = true := by
      unfold missCode codeB at hcode
      constructor
      · cases hh : (rowOkB l0 l1 && (validRow l3 && ((l3.length : Int) == (l0.length : Int)))) with
        | true => rfl
        | false => rw [hh] at hcode; simp at hcode
      · cases hh : inR 0 400 a2 with
        | true => rfl
        | false => rw [hh] at hcode; split at hcode <;> simp at hcode
    simp only [Bool.and_eq_true] at hb1
    obtain ⟨hk, hv, he⟩ := hb1
    have hday : 0 ≤ a2 ∧ a2 ≤ 400 := by simpa [inR] using hb2
    have h8 : l1.length ≤ 8 := by
      simp only [rowOkB, validWalkers, Bool.and_eq_true, decide_eq_true_eq] at hk
      have := hk.2.1.2
      omega
    rw [hk, hv, he, hb2] at HCD
    have HK := Aside0.mk (show impl_rowOk.f l0 l1 = some true by rw [rowOk_rowOkB, hk])
    have HV := Aside0.mk (show impl_ValidRow.f l3 = some true by unfold impl_ValidRow.f; rw [hv])
    have HI := Aside0.mk (show impl_within.f a2 0 400 = some true by rw [within_inR, hb2])
    have HE := Aside0.mk he
    clear h hf hcode hk hv hb2 he
    obtain ⟨hd0, hd1⟩ := hday
    go_enter Try.func13, Try.ntmps13
    have he : ((l3.length : Int) == (l0.length : Int)) = true := HE.out
    go_wp2_with (first
      | (go_at_call 68; refine (impl_rowOk.calls A0 c0 l0 A1 c1 l1 _ _ HR0.out HC0.out HR1.out HC1.out HK.out).mono ?_; rintro e w2 ⟨rfl, hb⟩; (have HB2 := Aside0.mk hb); clear HB hb)
      | (go_at_call 50; refine (impl_ValidRow.calls A3 c3 l3 _ _ (Kd.C_below HR3.out HB2.out) HC3.out HV.out).mono ?_; rintro e w3 ⟨rfl, ⟨nd3, rfl⟩⟩)
      | (go_at_call 69; refine (impl_within.calls _ _ _ _ _ HI.out).mono ?_; rintro e w4 ⟨rfl, ⟨nd4, rfl⟩⟩)
      | (go_at_call 67; refine (impl_codeOf.calls _ _ _ _ HCD.out).mono ?_; rintro e w5 ⟨rfl, ⟨nd5, rfl⟩⟩)
      | ((with_reducible refine gate_dst (N := 36) rfl ?_); refine Kd.R_lit k40 (w0 := w) w.heap.size 40 rfl (N := 36) rfl (xs := ([] : List S40)) (inner := []) (ok := fun _ => True) (okp := fun _ => True) ?hr (Reps.none _ _) (fun _ hk => hk) trivial (by repeat (first | exact HB2.out | apply pw_below_drewN)) (below_size (by repeat (first | exact HB2.out | apply pw_below_drewN))) (by simp) ?_; (case hr => first | (go_simp; done) | (go_simp; rfl)); intro v36 w36 ho36 hb36 _ _; (have HO := Aside0.mk ho36); (have HB := Aside0.mk hb36); clear ho36 hb36 HB2))
    go_loopw [11, 12, 13, 14, 15, 39] (fun v11 v12 v13 v14 v15 v39 w' => ∃ (i : Nat) (acc : List S40), i ≤ l1.length ∧ v39 = .int .i64 i ∧ Aside0 (missAll k l0 l1 a2 l3 (l1.drop i) i acc = some r) ∧ Aside0 (acc.length ≤ 1000 * i) ∧ Aside0 (Kd.R k40 40 w' w.heap.size (fun _ => True) v11 acc) ∧ Aside0 (Below w.heap.size w w')) (fun _ _ _ _ _ v39 _ => l1.length - (intOf v39).toNat)
    case atStart => exact ⟨0, [], Nat.zero_le _, rfl, ⟨by simpa using HF.out⟩, ⟨by simp⟩, HO, HB⟩
    case round =>
      clear HO HB HF he
      obtain ⟨i, acc, hi, rfl, HF, HLA, HO, HB⟩ := hrel
      have hsz := HB.out.size
      by_cases hlt : i < l1.length
      · have hF1 := HF.out
        rw [drop_rdW hlt] at hF1
        obtain ⟨row, hrow, hF2⟩ := Option.bind_eq_some_iff.mp hF1
        obtain ⟨wo, hwo, hF3⟩ := Option.bind_eq_some_iff.mp hF2
        obtain ⟨q, hq, hF4⟩ := Option.bind_eq_some_iff.mp hF3
        obtain ⟨acc', hacc, hF5⟩ := Option.bind_eq_some_iff.mp hF4
        have HROW := Aside0.mk hrow
        have HWO := Aside0.mk hwo
        have HQ := Aside0.mk hq
        have HACC := Aside0.mk hacc
        have HF' := Aside0.mk hF5
        clear hrow hwo hq hacc hF1 hF2 hF3 hF4 hF5 HF
        obtain ⟨ad, rfl, h0, h1, h2, h3, h4, h5⟩ := at_T38 (Kd.C_below HR1.out HB.out) (i : Int) (by omega) (by omega)
        simp only [Int.toNat_natCast] at h0 h1 h2 h3 h4 h5
        have HAD := Aside0.mk (show (some ad).isSome = true from rfl)
        generalize rd_T38 l1 (i : Int) = X at *
        have q1 := eq_true (show (i : Int) < (l1.length : Int) by omega)
        obtain ⟨wp0, rfl⟩ : ∃ wo : World, wo = wr := ⟨_, rfl⟩
        go_wp2_with (first
          | ((with_reducible refine gate_dst (N := 13) rfl ?_); refine box_event ?hg (N := 13) ?hd (cs := #[.int .i16 0, .int .i16 0, .int .i16 0, .int .i16 0, .int .i16 0, .int .i8 0]) (t := 38) ?hr ?_; (case hd => rfl); (case hg => rfl); (case hr => first | (go_simp; done) | (go_simp; rfl)); intro gb hg w26 hbox hb; (have HO2 := Aside0.mk (Kd.R_below HO.out hb)); (have HB2 := Aside0.mk (below_step HB.out hb)); (have BK := Aside0.mk hbox); (have GW := Aside0.mk (show w.heap.size ≤ gb by omega)); clear hb hg HO HB; (have hcz0 : w26.cell? ⟨gb, 0, none⟩ = some (.int .i16 0) := (blk_cell BK.out 0).trans rfl); (have hcz1 : w26.cell? ⟨gb, 1, none⟩ = some (.int .i16 0) := (blk_cell BK.out 1).trans rfl); (have hcz2 : w26.cell? ⟨gb, 2, none⟩ = some (.int .i16 0) := (blk_cell BK.out 2).trans rfl); (have hcz3 : w26.cell? ⟨gb, 3, none⟩ = some (.int .i16 0) := (blk_cell BK.out 3).trans rfl); (have hcz4 : w26.cell? ⟨gb, 4, none⟩ = some (.int .i16 0) := (blk_cell BK.out 4).trans rfl); (have hcz5 : w26.cell? ⟨gb, 5, none⟩ = some (.int .i8 0) := (blk_cell BK.out 5).trans rfl); (have hfz0 := blk_frozen BK.out 0; have hfz1 := blk_frozen BK.out 1; have hfz2 := blk_frozen BK.out 2; have hfz3 := blk_frozen BK.out 3; have hfz4 := blk_frozen BK.out 4; have hfz5 := blk_frozen BK.out 5); clear hbox))
        have BK6 := Aside0.mk (show ((((((w26.setCell ⟨gb, 0, none⟩ (.int .i16 X.f0)).setCell ⟨gb, 1, none⟩ (.int .i16 X.f1)).setCell ⟨gb, 2, none⟩ (.int .i16 X.f2)).setCell ⟨gb, 3, none⟩ (.int .i16 X.f3)).setCell ⟨gb, 4, none⟩ (.int .i16 X.f4)).setCell ⟨gb, 5, none⟩ (.int .i8 X.f5)).heap[gb]? = some (.cells #[.int .i16 X.f0, .int .i16 X.f1, .int .i16 X.f2, .int .i16 X.f3, .int .i16 X.f4, .int .i8 X.f5] 38 (0, 0)) from blk_put (blk_put (blk_put (blk_put (blk_put (blk_put BK.out 0 (.int .i16 X.f0) rfl) 1 (.int .i16 X.f1) rfl) 2 (.int .i16 X.f2) rfl) 3 (.int .i16 X.f3) rfl) 4 (.int .i16 X.f4) rfl) 5 (.int .i8 X.f5) rfl)
        have HO6 := Aside0.mk (show Kd.R k40 40 ((((((w26.setCell ⟨gb, 0, none⟩ (.int .i16 X.f0)).setCell ⟨gb, 1, none⟩ (.int .i16 X.f1)).setCell ⟨gb, 2, none⟩ (.int .i16 X.f2)).setCell ⟨gb, 3, none⟩ (.int .i16 X.f3)).setCell ⟨gb, 4, none⟩ (.int .i16 X.f4)).setCell ⟨gb, 5, none⟩ (.int .i8 X.f5)) w.heap.size (fun _ => True) u11 acc from Kd.R_mono (Kd.R_far (p := ⟨gb, 5, none⟩) (Kd.R_far (p := ⟨gb, 4, none⟩) (Kd.R_far (p := ⟨gb, 3, none⟩) (Kd.R_far (p := ⟨gb, 2, none⟩) (Kd.R_far (p := ⟨gb, 1, none⟩) (Kd.R_far (p := ⟨gb, 0, none⟩) (Kd.R_types HO2.out BK.out (by decide)) (fun _ hk => hk.2) _) (fun _ hk => hk.2) _) (fun _ hk => hk.2) _) (fun _ hk => hk.2) _) (fun _ hk => hk.2) _) (fun _ hk => hk.2) _) (fun _ _ => trivial))
        have HB6 := Aside0.mk (show Below w.heap.size w ((((((w26.setCell ⟨gb, 0, none⟩ (.int .i16 X.f0)).setCell ⟨gb, 1, none⟩ (.int .i16 X.f1)).setCell ⟨gb, 2, none⟩ (.int .i16 X.f2)).setCell ⟨gb, 3, none⟩ (.int .i16 X.f3)).setCell ⟨gb, 4, none⟩ (.int .i16 X.f4)).setCell ⟨gb, 5, none⟩ (.int .i8 X.f5)) from below_set (below_set (below_set (below_set (below_set (below_set HB2.out GW.out) GW.out) GW.out) GW.out) GW.out) GW.out)
        clear HO2 HB2 BK GW hcz0 hcz1 hcz2 hcz3 hcz4 hcz5 hfz0 hfz1 hfz2 hfz3 hfz4 hfz5 h0 h1 h2 h3 h4 h5 hsz
        generalize ((((((w26.setCell ⟨gb, 0, none⟩ (.int .i16 X.f0)).setCell ⟨gb, 1, none⟩ (.int .i16 X.f1)).setCell ⟨gb, 2, none⟩ (.int .i16 X.f2)).setCell ⟨gb, 3, none⟩ (.int .i16 X.f3)).setCell ⟨gb, 4, none⟩ (.int .i16 X.f4)).setCell ⟨gb, 5, none⟩ (.int .i8 X.f5)) = w1 at *
        have hcf := fun i => blk_cell BK6.out i
        have hcf0 := hcf 0; have hcf1 := hcf 1; have hcf2 := hcf 2; have hcf3 := hcf 3; have hcf4 := hcf 4; have hcf5 := hcf 5; clear hcf; simp at hcf0 hcf1 hcf2 hcf3 hcf4 hcf5
        go_region_with (first
          | (go_at_call 71; refine (impl_rowOn.calls k A0 c0 l0 (some ad) c1 l1 a2 row _ (Kd.C_below HR0.out (by repeat (first | exact HB6.out | apply below_alloc | apply pw_below_drewN | apply below_drew1))) HC0.out (Kd.C_below HR1.out (by repeat (first | exact HB6.out | apply below_alloc | apply pw_below_drewN | apply below_drew1))) HC1.out HROW.out).mono ?_; rintro e w2 ⟨v2, rfl, ho2, hb2⟩; obtain ⟨A2, c2, rfl⟩ := Kd.R_slice ho2; (have HRW := Aside0.mk (Kd.R_reads' ho2).2.2); (have HO7 := Aside0.mk (Kd.R_below (by (repeat (first | exact HO6.out | apply Kd.R_alloc | apply Kd.R_drewN | apply Kd.R_drew))) hb2)); (have BK7 := Aside0.mk (blk_below (by repeat (first | exact BK6.out | apply blk_alloc | apply blk_drewN | apply blk_drew)) hb2)); (have HB7 := Aside0.mk (below_step (by repeat (first | exact HB6.out | apply below_alloc | apply pw_below_drewN | apply below_drew1)) hb2)); (have HH2 := Aside0.mk hb2); (have hcb := fun i => blk_cell BK7.out i); (have hcb0 := hcb 0; have hcb1 := hcb 1; have hcb2 := hcb 2; have hcb3 := hcb 3; have hcb4 := hcb 4; have hcb5 := hcb 5; clear hcb; simp at hcb0 hcb1 hcb2 hcb3 hcb4 hcb5); clear ho2 hb2)
          | (go_at_call 70; refine (walked_one k A2 c2 row _ X _ _ (fun _ => -1) wo _ (Kd.C_below HRW.out (by repeat (first | exact Below.refl _ _ | apply below_alloc | apply pw_below_drewN | apply below_drew1))) (by first | exact heap_alloc_new _ _ | exact (HH2.out.block _ (by simp)).trans (heap_alloc_new _ _)) (Missed_cnt _ _) HWO.out).mono ?_; rintro e w3 ⟨v3, rfl, ho3, hb3⟩; (have HW := Aside0.mk (Kd.R_lower ho3 (below_size (by repeat (first | exact HB7.out | apply below_alloc | apply pw_below_drewN | apply below_drew1))))); (have HO8 := Aside0.mk (Kd.R_below (by (repeat (first | exact HO7.out | apply Kd.R_alloc | apply Kd.R_drewN | apply Kd.R_drew))) hb3)); (have BK8 := Aside0.mk (blk_below (by repeat (first | exact BK7.out | apply blk_alloc | apply blk_drewN | apply blk_drew)) hb3)); (have HB8 := Aside0.mk (below_step (by repeat (first | exact HB7.out | apply below_alloc | apply pw_below_drewN | apply below_drew1)) hb3)); clear ho3 hb3 HO7 BK7 HB7 hcb0 hcb1 hcb2 hcb3 hcb4 hcb5))
        all_goals
          obtain ⟨A4, c4, rfl⟩ := Kd.R_slice HW.out
          have hHL : acc.length ≤ 1000 * i := HLA.out
          clear HO6 BK6 HB6 HRW HH2 hcf0 hcf1 hcf2 hcf3 hcf4 hcf5 HROW HWO
          cases q with
          | true =>
            have HACC2 := Aside0.mk (show missDays X (i : Int) (a2 + 1 - 0).toNat 0 acc = some acc' by have := HACC.out; simpa using this)
            clear HACC
            go_wp2
            go_loopw [11, 15] (fun v11 v15 w' => ∃ (d : Int) (ac : List S40), 0 ≤ d ∧ d ≤ a2 + 1 ∧ v15 = .int .i64 d ∧ Aside0 (missDays X (i : Int) (a2 + 1 - d).toNat d ac = some acc') ∧ Aside0 ((ac.length : Int) ≤ 1000 * i + d) ∧ Aside0 (Kd.R k40 40 w' w.heap.size (fun _ => True) v11 ac) ∧ Aside0 (Kd.R (Kd.int .u8) 5 w' w.heap.size (fun _ => True) (.slice A4 wo.length c4) wo) ∧ Aside0 (w'.heap[gb]? = some (.cells #[.int .i16 X.f0, .int .i16 X.f1, .int .i16 X.f2, .int .i16 X.f3, .int .i16 X.f4, .int .i8 X.f5] 38 (0, 0))) ∧ Aside0 (Below w.heap.size w w')) (fun _ v15 _ => (a2 + 1 - intOf v15).toNat)
            case atStart => exact ⟨0, acc, by omega, by omega, rfl, HACC2, ⟨by omega⟩, HO8, HW, BK8, HB8⟩
            case round =>
              clear HACC2 HO8 HW BK8 HB8
              obtain ⟨d, ac, hd0', hd1', rfl, HM, HAL, HO, HW, BK, HB⟩ := hrel
              have hcb := fun i => blk_cell BK.out i
              have hcb0 := hcb 0; have hcb1 := hcb 1; have hcb2 := hcb 2; have hcb3 := hcb 3; have hcb4 := hcb 4; have hcb5 := hcb 5; clear hcb; simp at hcb0 hcb1 hcb2 hcb3 hcb4 hcb5
              obtain ⟨wq, rfl⟩ : ∃ wo : World, wo = wr := ⟨_, rfl⟩
              by_cases hle : d ≤ a2
              · have hM := HM.out
                rw [show (a2 + 1 - d).toNat = (a2 + 1 - (d + 1)).toNat + 1 by omega] at hM
                obtain ⟨b, hb, hM2⟩ := Option.bind_eq_some_iff.mp hM
                have HBB := Aside0.mk hb
                have HM2 := Aside0.mk hM2
                clear hb hM hM2 HM
                have q2 := eq_true hle
                cases b with
                | false =>
                  go_wp2_with (first
                    | (go_at_call 73; refine (impl_Row_uint8_73.calls k A4 c4 wo A3 c3 l3 _ _ (Kd.R_reads' HW.out).2.2 (Kd.R_reads' HW.out).2.1 (Kd.C_below HR3.out HB.out) HC3.out HQ.out).mono ?_; rintro e w4 ⟨rfl, ⟨nd, rfl⟩⟩)
                    | (go_at_call 74; refine (impl_Walker_comes.calls _ _ _ _ _ _ _ _ _ HBB.out).mono ?_; rintro e w5 ⟨rfl, hb5⟩; (have HO9 := Aside0.mk (Kd.R_below (Kd.R_drewN HO.out nd) hb5)); (have HW9 := Aside0.mk (Kd.R_below (Kd.R_drewN HW.out nd) hb5)); (have BK9 := Aside0.mk (blk_below (blk_drewN BK.out nd) hb5)); (have HB9 := Aside0.mk (below_step (pw_below_drewN HB.out nd) hb5)); clear hb5 HO HW BK HB hcb0 hcb1 hcb2 hcb3 hcb4 hcb5))
                  go_roundw
                  case rel => exact ⟨d + 1, ac, by omega, by omega, by go_num, ⟨by simpa using HM2.out⟩, ⟨by have := HAL.out; omega⟩, HO9, HW9, BK9, HB9⟩
                  case measure => simp [intOf]; omega
                | true =>
                  go_wp2_with (first
                    | (go_at_call 73; refine (impl_Row_uint8_73.calls k A4 c4 wo A3 c3 l3 _ _ (Kd.R_reads' HW.out).2.2 (Kd.R_reads' HW.out).2.1 (Kd.C_below HR3.out HB.out) HC3.out HQ.out).mono ?_; rintro e w4 ⟨rfl, ⟨nd, rfl⟩⟩)
                    | (go_at_call 74; refine (impl_Walker_comes.calls _ _ _ _ _ _ _ _ _ HBB.out).mono ?_; rintro e w5 ⟨rfl, hb5⟩; (have HO9 := Aside0.mk (Kd.R_below (Kd.R_drewN HO.out nd) hb5)); (have HW9 := Aside0.mk (Kd.R_below (Kd.R_drewN HW.out nd) hb5)); (have BK9 := Aside0.mk (blk_below (blk_drewN BK.out nd) hb5)); (have HB9 := Aside0.mk (below_step (pw_below_drewN HB.out nd) hb5)); clear hb5 HO HW BK HB hcb0 hcb1 hcb2 hcb3 hcb4 hcb5)
                    | (at_builtin; refine Kd.R_append k40 (w0 := w) w.heap.size rfl (.tmp 64) (.tmp 68) 31 40 (.agg #[(.int .i64 0), (.int .i64 0)]) 16 rfl Try.underlying31 info40 rfl (by decide) (by omega) _ ac (⟨(i : Int), d⟩ : S40) [.int .i64 (i : Int), .int .i64 d] (fun _ => True) (fun _ => False) rfl rfl (k40_mkM _ _ _ (⟨(i : Int), d⟩ : S40)) (fun _ hk => hk.elim) (fun _ _ => trivial) HO9.out HB9.out HB9.out.size (by have := HAL.out; omega) ?_; intro v69 w69 ho69 hb69 hg69 _; (have HO10 := Aside0.mk ho69); (have HB10 := Aside0.mk hb69); (have HW10 := Aside0.mk (Kd.R_over' HW9.out (Kd.R_typed HO9.out) (by decide) hg69)); (have BK10 := Aside0.mk (blk_grown BK9.out hg69 (Kd.R_ne HO9.out BK9.out (by decide)))); clear ho69 hb69 hg69 HO9 HB9 HW9 BK9))
                  go_roundw
                  case rel => exact ⟨d + 1, ac ++ [⟨(i : Int), d⟩], by omega, by omega, by go_num, ⟨by simpa using HM2.out⟩, ⟨by have := HAL.out; simp; omega⟩, HO10, HW10, BK10, HB10⟩
                  case measure => simp [intOf]; omega
              · have hM := HM.out
                rw [show (a2 + 1 - d).toNat = 0 by omega] at hM
                obtain rfl := Option.some.inj hM
                have q2 : (d ≤ a2) = False := eq_false hle
                clear hM HM
                go_wp2
                go_roundw
                case rel => exact ⟨i + 1, ac, by omega, by go_num, ⟨by simpa using HF'.out⟩, ⟨by have := HAL.out; omega⟩, HO, HB⟩
                case measure => simp [intOf]; omega
          | false =>
            obtain rfl := Option.some.inj (show some acc = some acc' by have := HACC.out; simpa using this)
            clear HACC
            go_wp2
            go_loopw [11, 15] (fun v11 v15 w' => v11 = u11 ∧ v15 = .int .i64 0 ∧ w' = w3) (fun _ _ _ => 0)
            case atStart => exact ⟨rfl, rfl, rfl⟩
            case round =>
              obtain ⟨rfl, rfl, rfl⟩ := hrel
              go_wp2_with (go_at_call 73; refine (impl_Row_uint8_73.calls k A4 c4 wo A3 c3 l3 _ _ (Kd.R_reads' HW.out).2.2 (Kd.R_reads' HW.out).2.1 (Kd.C_below HR3.out HB8.out) HC3.out HQ.out).mono ?_; rintro e w4 ⟨rfl, ⟨nd, rfl⟩⟩)
              go_roundw
              case rel => exact ⟨i + 1, acc, by omega, by go_num, ⟨by simpa using HF'.out⟩, ⟨by omega⟩, ⟨Kd.R_drewN HO8.out _⟩, ⟨pw_below_drewN HB8.out _⟩⟩
              case measure => simp [intOf]; omega
      · have hF := HF.out
        rw [List.drop_eq_nil_of_le (by omega)] at hF
        obtain rfl := Option.some.inj hF
        have q1 : ((i : Int) < (l1.length : Int)) = False := eq_false (by omega)
        clear hF HF
        go_wp2
        go_ret2
        exact ⟨_, rfl, HO.out, HB.out⟩
  · unfold impl_MissedWalks.f at h
    rw [if_neg hcode] at h
    simp only [Option.some.injEq, Prod.mk.injEq] at h
    obtain ⟨rfl, rfl⟩ := h
    have HK := Aside0.mk (rowOk_rowOkB l0 l1)
    have HV := Aside0.mk (show impl_ValidRow.f l3 = some (validRow l3) from rfl)
    have HI := Aside0.mk (within_inR a2 0 400)
    have HCD := Aside0.mk (codeOf_codeB (rowOkB l0 l1 && (validRow l3 && ((l3.length : Int) == (l0.length : Int)))) (inR 0 400 a2))
    unfold missCode at *
    have hne : (codeB (rowOkB l0 l1 && (validRow l3 && ((l3.length : Int) == (l0.length : Int)))) (inR 0 400 a2) != 0) = true := bne_iff_ne.mpr hcode
    clear hcode
    cases h1 : rowOkB l0 l1 <;> cases h2 : validRow l3 <;> simp only [h1, h2, Bool.true_and, Bool.false_and] at HK HV HCD hne ⊢
    all_goals
      clear h1 h2
      go_enter Try.func13, Try.ntmps13
      go_wp2_with (first
        | (go_at_call 68; refine (impl_rowOk.calls A0 c0 l0 A1 c1 l1 _ _ HR0.out HC0.out HR1.out HC1.out HK.out).mono ?_; rintro e w2 ⟨rfl, hb⟩; (have HB2 := Aside0.mk hb); clear HB hb)
        | (go_at_call 50; refine (impl_ValidRow.calls A3 c3 l3 _ _ (Kd.C_below HR3.out HB2.out) HC3.out HV.out).mono ?_; rintro e w3 ⟨rfl, ⟨nd3, rfl⟩⟩)
        | (go_at_call 69; refine (impl_within.calls _ _ _ _ _ HI.out).mono ?_; rintro e w4 ⟨rfl, ⟨nd4, rfl⟩⟩)
        | (go_at_call 67; refine (impl_codeOf.calls _ _ _ _ HCD.out).mono ?_; rintro e w5 ⟨rfl, ⟨nd5, rfl⟩⟩))
      go_ret2
      exact ⟨_, rfl, Kd.R_nil _ _ _ _ _, (by repeat (first | exact HB2.out | apply pw_below_drewN))⟩
end Go.Proofs.Ytmheflciiodhdaa.P
-- Written by wip/tools/mkprint.py of this repo, over the kit's print, out of the translation; Lean checks it.
namespace Go.Proofs.Ytmheflciiodhdaa.P
open Go.RowKit Go.Proofs.YtmheflciiodhdaaW.PrintWords Go.Proofs.YtmheflciiodhdaaW.PrintLast Go.Proofs.YtmheflciiodhdaaW.PrintMore
attribute [local go_sem] max2_int min2_int max_two min_two max_three min_three max_four min_four   -- for this text's walks alone
set_option linter.unusedVariables false
set_option linter.unusedSimpArgs false
/-! ### laws_eqInt64A2: given -/
def laws_eqInt64A2.f (a0_0 : Int) (a0_1 : Int) (a1_0 : Int) (a1_1 : Int) : Option Bool := some (a0_0 == a1_0 && a0_1 == a1_1)
set_option maxHeartbeats 8000000 in
set_option maxRecDepth 100000 in
theorem laws_eqInt64A2.calls (a0_0 : Int) (a0_1 : Int) (a1_0 : Int) (a1_1 : Int) (r : Bool) (w : World) (h : laws_eqInt64A2.f a0_0 a0_1 a1_0 a1_1 = some r) :
    Calls Try.prog 90 #[.agg #[.int .i64 a0_0, .int .i64 a0_1], .agg #[.int .i64 a1_0, .int .i64 a1_1]] w fun e w' => e = .returned (.bool r) ∧ Below w.heap.size w w' := by
  obtain rfl := Option.some.inj h
  clear h
  have hu := Try.underlying40
  go_enter Try.func90, Try.ntmps90
  go_wp2
  have BK0 := Aside0.mk (blk_alloc (heap_alloc_new w (.cells #[.int .i64 a0_0, .int .i64 a0_1] 40 (0, 0))) (.cells #[.int .i64 a1_0, .int .i64 a1_1] 40 (0, 0)))
  have BK1 := Aside0.mk (heap_alloc_new (w.alloc (.cells #[.int .i64 a0_0, .int .i64 a0_1] 40 (0, 0))) (.cells #[.int .i64 a1_0, .int .i64 a1_1] 40 (0, 0)))
  have HB := Aside0.mk (below_alloc (below_alloc (Below.refl w.heap.size w) (.cells #[.int .i64 a0_0, .int .i64 a0_1] 40 (0, 0))) (.cells #[.int .i64 a1_0, .int .i64 a1_1] 40 (0, 0)))
  have hc0 : ∀ i : Nat, i < 2 → ((w.alloc (.cells #[.int .i64 a0_0, .int .i64 a0_1] 40 (0, 0))).alloc (.cells #[.int .i64 a1_0, .int .i64 a1_1] 40 (0, 0))).cell? ⟨w.heap.size, i, none⟩ = some (.int .i64 (if i = 0 then a0_0 else a0_1)) := by
    intro i hi
    rw [blk_cell BK0.out i]
    match i, hi with
    | 0, _ => rfl
    | 1, _ => rfl
  have hc1 : ∀ i : Nat, i < 2 → ((w.alloc (.cells #[.int .i64 a0_0, .int .i64 a0_1] 40 (0, 0))).alloc (.cells #[.int .i64 a1_0, .int .i64 a1_1] 40 (0, 0))).cell? ⟨(w.alloc (.cells #[.int .i64 a0_0, .int .i64 a0_1] 40 (0, 0))).heap.size, i, none⟩ = some (.int .i64 (if i = 0 then a1_0 else a1_1)) := by
    intro i hi
    rw [blk_cell BK1.out i]
    match i, hi with
    | 0, _ => rfl
    | 1, _ => rfl
  have hsz : (w.alloc (.cells #[.int .i64 a0_0, .int .i64 a0_1] 40 (0, 0))).heap.size = w.heap.size + 1 := by simp
  rw [hsz] at hc1
  clear BK0 BK1 hsz
  generalize ((w.alloc (.cells #[.int .i64 a0_0, .int .i64 a0_1] 40 (0, 0))).alloc (.cells #[.int .i64 a1_0, .int .i64 a1_1] 40 (0, 0))) = w1 at *
  have HC0 := Aside0.mk hc0
  have HC1 := Aside0.mk hc1
  clear hc0 hc1
  go_loopw [5] (fun v5 w' => ∃ (i nd : Nat), i ≤ 2 ∧ v5 = .int .i64 i ∧ Aside0 (0 < i → a0_0 = a1_0) ∧ Aside0 (1 < i → a0_1 = a1_1) ∧ w' = w1.drewN nd) (fun v5 _ => 2 - (intOf v5).toNat)
  case atStart => exact ⟨0, 0, by omega, rfl, ⟨by omega⟩, ⟨by omega⟩, rfl⟩
  case round =>
    obtain ⟨i, nd, hi, rfl, E0, E1, rfl⟩ := hrel
    by_cases hlt : i < 2
    · have h0 : w1.cell? ⟨w.heap.size, i, none⟩ = _ := HC0.out i hlt
      have h1 : w1.cell? ⟨w.heap.size + 1, i, none⟩ = _ := HC1.out i hlt
      have q := eq_true (show (i : Int) < 2 by omega)
      have q0 := eq_true (show (0 : Int) ≤ (i : Int) by omega)
      by_cases he : (if i = 0 then a0_0 else a0_1) = (if i = 0 then a1_0 else a1_1)
      · have n0 : ((if i = 0 then a0_0 else a0_1) != (if i = 0 then a1_0 else a1_1)) = false := bne_eq_false_iff_eq.mpr he
        have HE : Aside0 ((i = 0 → a0_0 = a1_0) ∧ (i = 1 → a0_1 = a1_1)) := ⟨⟨fun h => by simpa [h] using he, fun h => by simpa [h] using he⟩⟩
        clear he
        generalize (if i = 0 then a0_0 else a0_1) = x at *
        generalize (if i = 0 then a1_0 else a1_1) = y at *
        go_wp2
        go_quiet (fail)
        go_wp2
        go_roundw
        case rel => exact ⟨i + 1, nd + nq, by omega, by go_num, ⟨fun _ => by
          rcases Nat.lt_or_ge 0 i with h | h
          · exact E0.out h
          · exact HE.out.1 (by omega)⟩, ⟨fun _ => HE.out.2 (by omega)⟩, by simp [World.drewN_drewN]⟩
        case measure => simp [intOf]; omega
      · have n0 : ((if i = 0 then a0_0 else a0_1) != (if i = 0 then a1_0 else a1_1)) = true := bne_iff_ne.mpr he
        have HE : Aside0 ((a0_0 == a1_0 && a0_1 == a1_1) = false) := ⟨by
          match i, hlt with
          | 0, _ => simp at he; simp [he]
          | 1, _ => simp at he; simp [he]⟩
        clear he
        generalize (if i = 0 then a0_0 else a0_1) = x at *
        generalize (if i = 0 then a1_0 else a1_1) = y at *
        go_wp2
        go_quiet (fail)
        go_wp2
        go_ret
        exact ⟨by rw [HE.out]; rfl, pw_below_drewN (pw_below_drewN HB.out _) _⟩
    · have he : (a0_0 == a1_0 && a0_1 == a1_1) = true := by simp [E0.out (by omega), E1.out (by omega)]
      have HE := Aside0.mk he
      clear he
      obtain rfl : i = 2 := by omega
      go_wp2
      go_ret
      exact ⟨by rw [HE.out]; rfl, pw_below_drewN HB.out _⟩
end Go.Proofs.Ytmheflciiodhdaa.P
-- Written by wip/tools/mkprint.py of this repo, over the kit's print, out of the translation; Lean checks it.
namespace Go.Proofs.Ytmheflciiodhdaa.P
open Go.RowKit Go.Proofs.YtmheflciiodhdaaW.PrintWords Go.Proofs.YtmheflciiodhdaaW.PrintLast Go.Proofs.YtmheflciiodhdaaW.PrintMore
attribute [local go_sem] max2_int min2_int max_two min_two max_three min_three max_four min_four   -- for this text's walks alone
set_option linter.unusedVariables false
set_option linter.unusedSimpArgs false
/-! ### laws_eqInt64A2S: function 33 -/
def laws_eqInt64A2S.l0 : Nat → List (S40) → List (S40) → Int → Option (Bool)
  | 0, _, _, _ => none
  | k + 1, x0, x1, x5 => if x5 < (x0.length : Int) then (if 0 ≤ x5 then (if x5 < (x1.length : Int) then ((laws_eqInt64A2.f ((rd_T40 x0 x5).f0) ((rd_T40 x0 x5).f1) ((rd_T40 x1 x5).f0) ((rd_T40 x1 x5).f1)).bind fun t466 => (if t466 = true then (laws_eqInt64A2S.l0 k x0 x1 (wrap64 (x5 + 1))) else (some false))) else (none)) else (none)) else (some true)
def laws_eqInt64A2S.f (k : Nat) (l0 : List (S40)) (l1 : List (S40)) : Option (Bool) := if (l0.length : Int) = (l1.length : Int) then (laws_eqInt64A2S.l0 k l0 l1 0) else (some false)
theorem laws_eqInt64A2S.mono_l : ∀ k, (∀ y0 y1 y2, LeO (laws_eqInt64A2S.l0 k y0 y1 y2) (laws_eqInt64A2S.l0 (k + 1) y0 y1 y2))
  | 0 => fun _ _ _ r h => by simp [laws_eqInt64A2S.l0] at h
  | k + 1 => by
    have ih0 := laws_eqInt64A2S.mono_l k
    · intro y0 y1 y2
      unfold laws_eqInt64A2S.l0
      repeat' first
      | (with_reducible exact ih0 _ _ _)
      | (with_reducible exact LeO.refl _)
      | (with_reducible exact LeO.none _)
      | (with_reducible refine LeO.ite ?_ ?_)
      | (with_reducible refine LeO.bind ?_ (fun _ => ?_))
      | exact ih0 _ _ _
      | exact LeO.none _
      | refine LeO.ite ?_ ?_
      | refine LeO.bind ?_ (fun _ => ?_)
theorem laws_eqInt64A2S.mono : ∀ a0 a1 k, LeO (laws_eqInt64A2S.f k a0 a1) (laws_eqInt64A2S.f (k + 1) a0 a1) := by
  intro a0 a1 k
  have ih0 := laws_eqInt64A2S.mono_l k
  unfold laws_eqInt64A2S.f
  repeat' first
      | (with_reducible exact ih0 _ _ _)
      | (with_reducible exact LeO.refl _)
      | (with_reducible exact LeO.none _)
      | (with_reducible refine LeO.ite ?_ ?_)
      | (with_reducible refine LeO.bind ?_ (fun _ => ?_))
      | exact ih0 _ _ _
      | exact LeO.none _
      | refine LeO.ite ?_ ?_
      | refine LeO.bind ?_ (fun _ => ?_)
def laws_eqInt64A2S.T6 : Bool × List (List Nat × List Nat) := (true, [([], []), ([], []), ([0, 1], [0, 1]), ([2], [2]), ([], []), ([], []), ([4, 5], [4, 5]), ([6], [6]), ([3, 7], [3, 7]), ([8], [8])])
def laws_eqInt64A2S.B6 : List Nat := [0, 0, 3, 7, 0, 0, 48, 112, 255, 511]
theorem laws_eqInt64A2S.tab6 : rtab .any (opsOf Try.f33 6) = laws_eqInt64A2S.T6 := by kernel_rfl
theorem laws_eqInt64A2S.bits6 : waitsOk laws_eqInt64A2S.T6.2 laws_eqInt64A2S.B6 = true := by kernel_rfl
set_option maxHeartbeats 8000000 in
set_option maxRecDepth 100000 in
theorem laws_eqInt64A2S.calls (k : Nat) (A0 : Option Addr) (c0 : Nat) (l0 : List (S40)) (A1 : Option Addr) (c1 : Nat) (l1 : List (S40)) (r : Bool) (w : World) (hr0 : Kd.C k40 w A0 l0.length l0) (hc0 : l0.length ≤ c0) (hr1 : Kd.C k40 w A1 l1.length l1) (hc1 : l1.length ≤ c1) (h : laws_eqInt64A2S.f k l0 l1 = some r) :
    Calls Try.prog 33 #[.slice A0 l0.length c0, .slice A1 l1.length c1] w fun e w' => e = .returned (.bool r) ∧ Below w.heap.size w w' := by
  have hu40 := Try.underlying40
  have HR0 := Aside0.mk hr0
  have HC0 := Aside0.mk hc0
  clear hr0 hc0
  have HR1 := Aside0.mk hr1
  have HC1 := Aside0.mk hc1
  clear hr1 hc1
  have HB := Aside0.mk (Below.refl w.heap.size w)
  have H : (if (l0.length : Int) = (l1.length : Int) then (laws_eqInt64A2S.l0 k l0 l1 0) else (some false)) = some r := h
  clear h
  by_cases c3 : (l0.length : Int) = (l1.length : Int)
  · rw [if_pos c3] at H
    have c3b0 : ((l0.length : Int) == (l1.length : Int)) = true := beq_iff_eq.mpr c3
    have c3b1 : ((l0.length : Int) != (l1.length : Int)) = false := bne_eq_false_iff_eq.mpr c3
    have c3b2 : (l0.length == l1.length) = true := by first | simpa using c3 | (simp at c3 ⊢; omega)
    clear c3
    have H' := Aside0.mk H
    clear H
    go_enter Try.func33, Try.ntmps33
    go_wp2
    go_loopg [5] k (fun kq v5 w' => ∃ (x5_1 : Int), v5 = .int .i64 x5_1 ∧ Aside0 (laws_eqInt64A2S.l0 kq l0 l1 x5_1 = some r) ∧ Aside0 (kq ≤ k) ∧ Aside0 (Below w.heap.size w w'))
    case atStart => exact ⟨(0), (by first | rfl | (simp; done) | (simp [*]; done)), H', ⟨Nat.le_refl _⟩, ⟨by repeat (first | (with_reducible first | exact HB.out | apply below_alloc | apply pw_below_drewN | apply below_drew1) | exact HB.out)⟩⟩
    case round =>
      clear H'
      try clear c1
      try clear p2
      try clear c3
      try clear c3b0
      try clear c3b1
      try clear c3b2
      obtain ⟨x5_1, rfl, HA, HK1, HB⟩ := hrel
      cases gk with
      | zero => exact absurd HA.out (by simp [laws_eqInt64A2S.l0])
      | succ k1 =>
        have H := HA.out
        clear HA
        simp only [laws_eqInt64A2S.l0] at H
        by_cases c4 : x5_1 < (l0.length : Int)
        · rw [if_pos c4] at H
          have c4b0 : decide (x5_1 < (l0.length : Int)) = true := decide_eq_true c4
          clear c4
          by_cases c5 : 0 ≤ x5_1
          · rw [if_pos c5] at H
            have c5b0 : decide (0 ≤ x5_1) = true := decide_eq_true c5
            clear c5
            by_cases c6 : x5_1 < (l1.length : Int)
            · rw [if_pos c6] at H
              have c6b0 : decide (x5_1 < (l1.length : Int)) = true := decide_eq_true c6
              clear c6
              replace H := Option.bind_eq_some_iff.mp H
              obtain ⟨t466, A70, H⟩ := H
              replace H : (if t466 = true then (laws_eqInt64A2S.l0 k1 l0 l1 (wrap64 (x5_1 + 1))) else (some false)) = some r := H
              have A7 := Aside0.mk A70
              clear A70
              by_cases c8 : t466 = true
              · subst c8
                have H1 : (laws_eqInt64A2S.l0 k1 l0 l1 (wrap64 (x5_1 + 1))) = some r := by rw [if_pos rfl] at H; exact H
                clear H
                have H := H1
                clear H1
                have H' := Aside0.mk H
                clear H
                try go_wp2
                have n0_ := Aside0.mk (below_drew1 HB.out)
                clear HB
                have HB := n0_
                clear n0_
                have p464 : 0 ≤ (x5_1 : Int) := of_decide_eq_true (by first | (with_reducible assumption) | assumption)
                have q464 : x5_1 < (l0.length : Int) := of_decide_eq_true (by first | (with_reducible assumption) | assumption)
                obtain ⟨ad464, e464, hx464_0, hx464_1⟩ := at_T40 HR0.out x5_1 p464 q464
                have hw464_1 := hx464_1
                have hw464_0 := hx464_0
                cases e464
                replace hx464_0 := (HB.out.cell (World.block_lt_of_cell? w _ hx464_0)).trans hx464_0
                replace hx464_1 := (HB.out.cell (World.block_lt_of_cell? w _ hx464_1)).trans hx464_1
                replace p464 := eq_true p464
                replace q464 := eq_true q464
                have p465 : 0 ≤ (x5_1 : Int) := of_decide_eq_true (by first | (with_reducible assumption) | assumption)
                have q465 : x5_1 < (l1.length : Int) := of_decide_eq_true (by first | (with_reducible assumption) | assumption)
                obtain ⟨ad465, e465, hx465_0, hx465_1⟩ := at_T40 HR1.out x5_1 p465 q465
                have hw465_1 := hx465_1
                have hw465_0 := hx465_0
                cases e465
                replace hx465_0 := (HB.out.cell (World.block_lt_of_cell? w _ hx465_0)).trans hx465_0
                replace hx465_1 := (HB.out.cell (World.block_lt_of_cell? w _ hx465_1)).trans hx465_1
                replace p465 := eq_true p465
                replace q465 := eq_true q465
                refine start_ (n := 10) (S := fun w' => w'.cell? (ad464.add ((x5_1).toNat * 2)) = some (.int .i64 ((rd_T40 l0 x5_1).f0)) ∧ w'.cell? ⟨(ad464.add ((x5_1).toNat * 2)).block, (ad464.add ((x5_1).toNat * 2)).off + 1, none⟩ = some (.int .i64 ((rd_T40 l0 x5_1).f1)) ∧ w'.cell? (ad465.add ((x5_1).toNat * 2)) = some (.int .i64 ((rd_T40 l1 x5_1).f0)) ∧ w'.cell? ⟨(ad465.add ((x5_1).toNat * 2)).block, (ad465.add ((x5_1).toNat * 2)).off + 1, none⟩ = some (.int .i64 ((rd_T40 l1 x5_1).f1))) (ds := []) #[false, false, false, false, false, false, false, false, false, false] (by kernel_rfl) rfl rfl ⟨((HB.out.cell (World.block_lt_of_cell? w _ hw464_0)).trans hw464_0), ((HB.out.cell (World.block_lt_of_cell? w _ hw464_1)).trans hw464_1), ((HB.out.cell (World.block_lt_of_cell? w _ hw465_0)).trans hw465_0), ((HB.out.cell (World.block_lt_of_cell? w _ hw465_1)).trans hw465_1)⟩ (fun hHeld => ?_); refine with_tabW laws_eqInt64A2S.tab6 laws_eqInt64A2S.bits6 (fun HT_ HW_ => ?_)
                generalize wr.drew = w9 at HB hx464_0 hx464_1 hx465_0 hx465_1 hHeld ⊢
                refine pure_ (i := 0) (N := some 17) (v := ?_) (a' := ?_) #[true, false, false, false, false, false, false, false, false, false] rfl rfl (any_of HT_.out (by kernel_rfl)) (fun _ _ _ h => h) (Or.inl ⟨by rfl, ?_⟩) ?_ ?_
                rotate_left
                · intro w'
                  go_simp
                  with_reducible rfl
                rotate_left
                · simp only [Act.put, List.setIfInBounds_toArray, List.set_cons_zero, List.set_cons_succ, i64_w, i32_w]
                  rfl
                refine pure_ (i := 1) (N := some 18) (v := ?_) (a' := ?_) #[true, true, false, false, false, false, false, false, false, false] rfl rfl (any_of HT_.out (by kernel_rfl)) (fun _ _ _ h => h) (Or.inl ⟨by rfl, ?_⟩) ?_ ?_
                rotate_left
                · intro w'
                  go_simp
                  with_reducible rfl
                rotate_left
                · simp only [Act.put, List.setIfInBounds_toArray, List.set_cons_zero, List.set_cons_succ, i64_w, i32_w]
                  rfl
                refine pure_ (i := 2) (N := some 19) (v := ?_) (a' := ?_) #[true, true, true, false, false, false, false, false, false, false] rfl rfl (any_of HT_.out (by kernel_rfl)) (fun _ _ _ h => h) (Or.inl ⟨by rfl, ?_⟩) ?_ ?_
                rotate_left
                · intro w'
                  go_simp
                  with_reducible rfl
                rotate_left
                · simp only [Act.put, List.setIfInBounds_toArray, List.set_cons_zero, List.set_cons_succ, i64_w, i32_w]
                  rfl
                refine pure_ (i := 4) (N := some 21) (v := ?_) (a' := ?_) #[true, true, true, false, true, false, false, false, false, false] rfl rfl (any_of HT_.out (by kernel_rfl)) (fun _ _ _ h => h) (Or.inl ⟨by rfl, ?_⟩) ?_ ?_
                rotate_left
                · intro w'
                  go_simp
                  with_reducible rfl
                rotate_left
                · simp only [Act.put, List.setIfInBounds_toArray, List.set_cons_zero, List.set_cons_succ, i64_w, i32_w]
                  rfl
                refine pure_ (i := 5) (N := some 22) (v := ?_) (a' := ?_) #[true, true, true, false, true, true, false, false, false, false] rfl rfl (any_of HT_.out (by kernel_rfl)) (fun _ _ _ h => h) (Or.inl ⟨by rfl, ?_⟩) ?_ ?_
                rotate_left
                · intro w'
                  go_simp
                  with_reducible rfl
                rotate_left
                · simp only [Act.put, List.setIfInBounds_toArray, List.set_cons_zero, List.set_cons_succ, i64_w, i32_w]
                  rfl
                refine pure_ (i := 6) (N := some 23) (v := ?_) (a' := ?_) #[true, true, true, false, true, true, true, false, false, false] rfl rfl (any_of HT_.out (by kernel_rfl)) (fun _ _ _ h => h) (Or.inl ⟨by rfl, ?_⟩) ?_ ?_
                rotate_left
                · intro w'
                  go_simp
                  with_reducible rfl
                rotate_left
                · simp only [Act.put, List.setIfInBounds_toArray, List.set_cons_zero, List.set_cons_succ, i64_w, i32_w]
                  rfl
                refine take_ (i := 3) (N := some 20) (v := ?_) (a' := ?_) #[true, true, true, true, true, true, true, false, false, false] rfl rfl (take_ofW HT_.out HW_.out (by kernel_rfl)) (fun _ _ _ h => h) (Or.inl ⟨by rfl, ?_⟩) hHeld ?_ ?_
                rotate_left
                · rintro w' ⟨s0, s1, s2, s3⟩
                  go_simp
                  with_reducible rfl
                rotate_left
                · simp only [Act.put, List.setIfInBounds_toArray, List.set_cons_zero, List.set_cons_succ, i64_w, i32_w]
                  rfl
                refine take_ (i := 7) (N := some 24) (v := ?_) (a' := ?_) #[true, true, true, true, true, true, true, true, false, false] rfl rfl (take_ofW HT_.out HW_.out (by kernel_rfl)) (fun _ _ _ h => h) (Or.inl ⟨by rfl, ?_⟩) hHeld ?_ ?_
                rotate_left
                · rintro w' ⟨s0, s1, s2, s3⟩
                  go_simp
                  with_reducible rfl
                rotate_left
                · simp only [Act.put, List.setIfInBounds_toArray, List.set_cons_zero, List.set_cons_succ, i64_w, i32_w]
                  rfl
                refine one_ (i := 8) (N := some 25) #[true, true, true, true, true, true, true, true, true, false] rfl rfl (one_of HT_.out (by kernel_rfl)) (by decide) (fun K hK => ?_)
                refine goes_ Try.func90 (by kernel_rfl) rfl #[.agg #[.int .i64 ((rd_T40 l0 x5_1).f0), .int .i64 ((rd_T40 l0 x5_1).f1)], .agg #[.int .i64 ((rd_T40 l1 x5_1).f0), .int .i64 ((rd_T40 l1 x5_1).f1)]] (by rfl) rfl rfl (by (try simp only [List.map_toArray, List.map_cons, List.map_nil]); first | done | rfl | (simp only [List.length_drop, List.length_take]; rfl)) ?_
                with_reducible refine (laws_eqInt64A2.calls ((rd_T40 l0 x5_1).f0) ((rd_T40 l0 x5_1).f1) ((rd_T40 l1 x5_1).f0) ((rd_T40 l1 x5_1).f1) true _ A7.out).mono ?_
                rintro e w10 ⟨rfl, hb⟩
                refine ⟨_, rfl, ?_⟩
                have n0_ := Aside0.mk (below_step (by repeat (first | (with_reducible first | exact HB.out | apply below_alloc | apply pw_below_drewN | apply below_drew1) | exact HB.out)) hb)
                clear HB
                have HB := n0_
                clear n0_
                (try clear hb)
                (try clear hb2)
                (try clear hk)
                (try clear hi)
                refine hK.out _ _ ⟨((HB.out.cell (World.block_lt_of_cell? w _ hw464_0)).trans hw464_0), ((HB.out.cell (World.block_lt_of_cell? w _ hw464_1)).trans hw464_1), ((HB.out.cell (World.block_lt_of_cell? w _ hw465_0)).trans hw465_0), ((HB.out.cell (World.block_lt_of_cell? w _ hw465_1)).trans hw465_1)⟩ (fun hHeld => ?_)
                clear hK K
                refine norm_ (a' := ?_) ?_ ?_
                rotate_left
                · show Act.put _ (some 25) _ = _
                  simp only [Act.put, List.setIfInBounds_toArray, List.set_cons_zero, List.set_cons_succ, i64_w, i32_w]
                  rfl
                refine pure_ (i := 9) (N := some 26) (v := ?_) (a' := ?_) #[true, true, true, true, true, true, true, true, true, true] rfl rfl (any_of HT_.out (by kernel_rfl)) (fun _ _ _ h => h) (Or.inl ⟨by rfl, ?_⟩) ?_ ?_
                rotate_left
                · intro w'
                  go_simp
                  with_reducible rfl
                rotate_left
                · simp only [Act.put, List.setIfInBounds_toArray, List.set_cons_zero, List.set_cons_succ, i64_w, i32_w]
                  rfl
                refine done_ (done_of HT_.out (by kernel_rfl)) ?_
                try go_wp2
                go_roundg k1
                case measure => have := HK1.out; omega
                case rel => exact ⟨(wrap64 (x5_1 + 1)), (by first | rfl | (simp; done) | (simp [*]; done)), H', ⟨by have := HK1.out; omega⟩, ⟨by repeat (first | (with_reducible first | exact HB.out | apply below_alloc | apply pw_below_drewN | apply below_drew1) | exact HB.out)⟩⟩
              · replace c8 := Bool.eq_false_iff.mpr c8
                subst c8
                have H1 : (some false) = some r := by rw [if_neg (show ¬ (false = true) by decide)] at H; exact H
                clear H
                have H := H1
                clear H1
                obtain rfl := Option.some.inj H
                try go_wp2
                have n0_ := Aside0.mk (below_drew1 HB.out)
                clear HB
                have HB := n0_
                clear n0_
                have p464 : 0 ≤ (x5_1 : Int) := of_decide_eq_true (by first | (with_reducible assumption) | assumption)
                have q464 : x5_1 < (l0.length : Int) := of_decide_eq_true (by first | (with_reducible assumption) | assumption)
                obtain ⟨ad464, e464, hx464_0, hx464_1⟩ := at_T40 HR0.out x5_1 p464 q464
                have hw464_1 := hx464_1
                have hw464_0 := hx464_0
                cases e464
                replace hx464_0 := (HB.out.cell (World.block_lt_of_cell? w _ hx464_0)).trans hx464_0
                replace hx464_1 := (HB.out.cell (World.block_lt_of_cell? w _ hx464_1)).trans hx464_1
                replace p464 := eq_true p464
                replace q464 := eq_true q464
                have p465 : 0 ≤ (x5_1 : Int) := of_decide_eq_true (by first | (with_reducible assumption) | assumption)
                have q465 : x5_1 < (l1.length : Int) := of_decide_eq_true (by first | (with_reducible assumption) | assumption)
                obtain ⟨ad465, e465, hx465_0, hx465_1⟩ := at_T40 HR1.out x5_1 p465 q465
                have hw465_1 := hx465_1
                have hw465_0 := hx465_0
                cases e465
                replace hx465_0 := (HB.out.cell (World.block_lt_of_cell? w _ hx465_0)).trans hx465_0
                replace hx465_1 := (HB.out.cell (World.block_lt_of_cell? w _ hx465_1)).trans hx465_1
                replace p465 := eq_true p465
                replace q465 := eq_true q465
                refine start_ (n := 10) (S := fun w' => w'.cell? (ad464.add ((x5_1).toNat * 2)) = some (.int .i64 ((rd_T40 l0 x5_1).f0)) ∧ w'.cell? ⟨(ad464.add ((x5_1).toNat * 2)).block, (ad464.add ((x5_1).toNat * 2)).off + 1, none⟩ = some (.int .i64 ((rd_T40 l0 x5_1).f1)) ∧ w'.cell? (ad465.add ((x5_1).toNat * 2)) = some (.int .i64 ((rd_T40 l1 x5_1).f0)) ∧ w'.cell? ⟨(ad465.add ((x5_1).toNat * 2)).block, (ad465.add ((x5_1).toNat * 2)).off + 1, none⟩ = some (.int .i64 ((rd_T40 l1 x5_1).f1))) (ds := []) #[false, false, false, false, false, false, false, false, false, false] (by kernel_rfl) rfl rfl ⟨((HB.out.cell (World.block_lt_of_cell? w _ hw464_0)).trans hw464_0), ((HB.out.cell (World.block_lt_of_cell? w _ hw464_1)).trans hw464_1), ((HB.out.cell (World.block_lt_of_cell? w _ hw465_0)).trans hw465_0), ((HB.out.cell (World.block_lt_of_cell? w _ hw465_1)).trans hw465_1)⟩ (fun hHeld => ?_); refine with_tabW laws_eqInt64A2S.tab6 laws_eqInt64A2S.bits6 (fun HT_ HW_ => ?_)
                generalize wr.drew = w11 at HB hx464_0 hx464_1 hx465_0 hx465_1 hHeld ⊢
                refine pure_ (i := 0) (N := some 17) (v := ?_) (a' := ?_) #[true, false, false, false, false, false, false, false, false, false] rfl rfl (any_of HT_.out (by kernel_rfl)) (fun _ _ _ h => h) (Or.inl ⟨by rfl, ?_⟩) ?_ ?_
                rotate_left
                · intro w'
                  go_simp
                  with_reducible rfl
                rotate_left
                · simp only [Act.put, List.setIfInBounds_toArray, List.set_cons_zero, List.set_cons_succ, i64_w, i32_w]
                  rfl
                refine pure_ (i := 1) (N := some 18) (v := ?_) (a' := ?_) #[true, true, false, false, false, false, false, false, false, false] rfl rfl (any_of HT_.out (by kernel_rfl)) (fun _ _ _ h => h) (Or.inl ⟨by rfl, ?_⟩) ?_ ?_
                rotate_left
                · intro w'
                  go_simp
                  with_reducible rfl
                rotate_left
                · simp only [Act.put, List.setIfInBounds_toArray, List.set_cons_zero, List.set_cons_succ, i64_w, i32_w]
                  rfl
                refine pure_ (i := 2) (N := some 19) (v := ?_) (a' := ?_) #[true, true, true, false, false, false, false, false, false, false] rfl rfl (any_of HT_.out (by kernel_rfl)) (fun _ _ _ h => h) (Or.inl ⟨by rfl, ?_⟩) ?_ ?_
                rotate_left
                · intro w'
                  go_simp
                  with_reducible rfl
                rotate_left
                · simp only [Act.put, List.setIfInBounds_toArray, List.set_cons_zero, List.set_cons_succ, i64_w, i32_w]
                  rfl
                refine pure_ (i := 4) (N := some 21) (v := ?_) (a' := ?_) #[true, true, true, false, true, false, false, false, false, false] rfl rfl (any_of HT_.out (by kernel_rfl)) (fun _ _ _ h => h) (Or.inl ⟨by rfl, ?_⟩) ?_ ?_
                rotate_left
                · intro w'
                  go_simp
                  with_reducible rfl
                rotate_left
                · simp only [Act.put, List.setIfInBounds_toArray, List.set_cons_zero, List.set_cons_succ, i64_w, i32_w]
                  rfl
                refine pure_ (i := 5) (N := some 22) (v := ?_) (a' := ?_) #[true, true, true, false, true, true, false, false, false, false] rfl rfl (any_of HT_.out (by kernel_rfl)) (fun _ _ _ h => h) (Or.inl ⟨by rfl, ?_⟩) ?_ ?_
                rotate_left
                · intro w'
                  go_simp
                  with_reducible rfl
                rotate_left
                · simp only [Act.put, List.setIfInBounds_toArray, List.set_cons_zero, List.set_cons_succ, i64_w, i32_w]
                  rfl
                refine pure_ (i := 6) (N := some 23) (v := ?_) (a' := ?_) #[true, true, true, false, true, true, true, false, false, false] rfl rfl (any_of HT_.out (by kernel_rfl)) (fun _ _ _ h => h) (Or.inl ⟨by rfl, ?_⟩) ?_ ?_
                rotate_left
                · intro w'
                  go_simp
                  with_reducible rfl
                rotate_left
                · simp only [Act.put, List.setIfInBounds_toArray, List.set_cons_zero, List.set_cons_succ, i64_w, i32_w]
                  rfl
                refine take_ (i := 3) (N := some 20) (v := ?_) (a' := ?_) #[true, true, true, true, true, true, true, false, false, false] rfl rfl (take_ofW HT_.out HW_.out (by kernel_rfl)) (fun _ _ _ h => h) (Or.inl ⟨by rfl, ?_⟩) hHeld ?_ ?_
                rotate_left
                · rintro w' ⟨s0, s1, s2, s3⟩
                  go_simp
                  with_reducible rfl
                rotate_left
                · simp only [Act.put, List.setIfInBounds_toArray, List.set_cons_zero, List.set_cons_succ, i64_w, i32_w]
                  rfl
                refine take_ (i := 7) (N := some 24) (v := ?_) (a' := ?_) #[true, true, true, true, true, true, true, true, false, false] rfl rfl (take_ofW HT_.out HW_.out (by kernel_rfl)) (fun _ _ _ h => h) (Or.inl ⟨by rfl, ?_⟩) hHeld ?_ ?_
                rotate_left
                · rintro w' ⟨s0, s1, s2, s3⟩
                  go_simp
                  with_reducible rfl
                rotate_left
                · simp only [Act.put, List.setIfInBounds_toArray, List.set_cons_zero, List.set_cons_succ, i64_w, i32_w]
                  rfl
                refine one_ (i := 8) (N := some 25) #[true, true, true, true, true, true, true, true, true, false] rfl rfl (one_of HT_.out (by kernel_rfl)) (by decide) (fun K hK => ?_)
                refine goes_ Try.func90 (by kernel_rfl) rfl #[.agg #[.int .i64 ((rd_T40 l0 x5_1).f0), .int .i64 ((rd_T40 l0 x5_1).f1)], .agg #[.int .i64 ((rd_T40 l1 x5_1).f0), .int .i64 ((rd_T40 l1 x5_1).f1)]] (by rfl) rfl rfl (by (try simp only [List.map_toArray, List.map_cons, List.map_nil]); first | done | rfl | (simp only [List.length_drop, List.length_take]; rfl)) ?_
                with_reducible refine (laws_eqInt64A2.calls ((rd_T40 l0 x5_1).f0) ((rd_T40 l0 x5_1).f1) ((rd_T40 l1 x5_1).f0) ((rd_T40 l1 x5_1).f1) false _ A7.out).mono ?_
                rintro e w12 ⟨rfl, hb⟩
                refine ⟨_, rfl, ?_⟩
                have n0_ := Aside0.mk (below_step (by repeat (first | (with_reducible first | exact HB.out | apply below_alloc | apply pw_below_drewN | apply below_drew1) | exact HB.out)) hb)
                clear HB
                have HB := n0_
                clear n0_
                (try clear hb)
                (try clear hb2)
                (try clear hk)
                (try clear hi)
                refine hK.out _ _ ⟨((HB.out.cell (World.block_lt_of_cell? w _ hw464_0)).trans hw464_0), ((HB.out.cell (World.block_lt_of_cell? w _ hw464_1)).trans hw464_1), ((HB.out.cell (World.block_lt_of_cell? w _ hw465_0)).trans hw465_0), ((HB.out.cell (World.block_lt_of_cell? w _ hw465_1)).trans hw465_1)⟩ (fun hHeld => ?_)
                clear hK K
                refine norm_ (a' := ?_) ?_ ?_
                rotate_left
                · show Act.put _ (some 25) _ = _
                  simp only [Act.put, List.setIfInBounds_toArray, List.set_cons_zero, List.set_cons_succ, i64_w, i32_w]
                  rfl
                refine pure_ (i := 9) (N := some 26) (v := ?_) (a' := ?_) #[true, true, true, true, true, true, true, true, true, true] rfl rfl (any_of HT_.out (by kernel_rfl)) (fun _ _ _ h => h) (Or.inl ⟨by rfl, ?_⟩) ?_ ?_
                rotate_left
                · intro w'
                  go_simp
                  with_reducible rfl
                rotate_left
                · simp only [Act.put, List.setIfInBounds_toArray, List.set_cons_zero, List.set_cons_succ, i64_w, i32_w]
                  rfl
                refine done_ (done_of HT_.out (by kernel_rfl)) ?_
                try go_wp2
                go_ret
                exact ⟨by first | rfl | (simp [errW_none, errW_some] <;> rfl) | (simp [*, errW_none, errW_some] <;> rfl), by repeat (first | (with_reducible first | exact HB.out | apply below_alloc | apply pw_below_drewN | apply below_drew1) | exact HB.out)⟩
            · rw [if_neg c6] at H
              exact absurd H (by simp)
          · rw [if_neg c5] at H
            exact absurd H (by simp)
        · rw [if_neg c4] at H
          have c4b0 : decide (x5_1 < (l0.length : Int)) = false := decide_eq_false c4
          clear c4
          obtain rfl := Option.some.inj H
          go_wp2
          go_ret
          exact ⟨by first | rfl | (simp [errW_none, errW_some] <;> rfl) | (simp [*, errW_none, errW_some] <;> rfl), by repeat (first | (with_reducible first | exact HB.out | apply below_alloc | apply pw_below_drewN | apply below_drew1) | exact HB.out)⟩
  · rw [if_neg c3] at H
    have c3b0 : ((l0.length : Int) == (l1.length : Int)) = false := beq_eq_false_iff_ne.mpr c3
    have c3b1 : ((l0.length : Int) != (l1.length : Int)) = true := bne_iff_ne.mpr c3
    have c3b2 : (l0.length == l1.length) = false := by first | simpa using c3 | (simp at c3 ⊢; omega)
    obtain rfl := Option.some.inj H
    go_enter Try.func33, Try.ntmps33
    go_wp2
    go_ret
    exact ⟨by first | rfl | (simp [errW_none, errW_some] <;> rfl) | (simp [*, errW_none, errW_some] <;> rfl), by repeat (first | (with_reducible first | exact HB.out | apply below_alloc | apply pw_below_drewN | apply below_drew1) | exact HB.out)⟩
end Go.Proofs.Ytmheflciiodhdaa.P
-- Written by wip/tools/mkprint.py of this repo, over the kit's print, out of the translation; Lean checks it.
namespace Go.Proofs.Ytmheflciiodhdaa.P
open Go.RowKit Go.Proofs.YtmheflciiodhdaaW.PrintWords Go.Proofs.YtmheflciiodhdaaW.PrintLast Go.Proofs.YtmheflciiodhdaaW.PrintMore
attribute [local go_sem] max2_int min2_int max_two min_two max_three min_three max_four min_four   -- for this text's walks alone
set_option linter.unusedVariables false
set_option linter.unusedSimpArgs false
/-! ### laws_heldInt64A2S: given -/
def laws_heldInt64A2S.l0 : Nat → List S40 → Int → Int → Option Int
  | 0, _, _, _ => none
  | k + 1, x0, x1, x5 => if x5 < (x0.length : Int) then (if 0 ≤ x5 then (if (rd_T40 x0 x5).f0 = x1 then (if (rd_T40 x0 x5).f1 = wrap64 (x1 + 1) then laws_heldInt64A2S.l0 k x0 (wrap64 (wrap64 (x1 + 1) + 1)) (wrap64 (x5 + 1)) else some (-1)) else some (-1)) else none) else some x1
def laws_heldInt64A2S.f (k : Nat) (l0 : List S40) (a1 : Int) : Option Int := laws_heldInt64A2S.l0 k l0 a1 0
theorem laws_heldInt64A2S.mono_l : ∀ k, ∀ y0 y1 y2, LeO (laws_heldInt64A2S.l0 k y0 y1 y2) (laws_heldInt64A2S.l0 (k + 1) y0 y1 y2)
  | 0 => fun _ _ _ r h => by simp [laws_heldInt64A2S.l0] at h
  | k + 1 => fun y0 y1 y2 => by
    unfold laws_heldInt64A2S.l0
    exact LeO.ite (LeO.ite (LeO.ite (LeO.ite (laws_heldInt64A2S.mono_l k _ _ _) (LeO.refl _)) (LeO.refl _)) (LeO.none _)) (LeO.refl _)
theorem laws_heldInt64A2S.mono : ∀ a0 a1 k, LeO (laws_heldInt64A2S.f k a0 a1) (laws_heldInt64A2S.f (k + 1) a0 a1) := fun _ _ k => laws_heldInt64A2S.mono_l k _ _ _
set_option maxHeartbeats 8000000 in
set_option maxRecDepth 100000 in
theorem laws_heldInt64A2S.calls (k : Nat) (A0 : Option Addr) (c0 : Nat) (l0 : List S40) (a1 : Int) (r : Int) (w : World) (hr0 : Kd.C k40 w A0 l0.length l0) (hc0 : l0.length ≤ c0) (h : laws_heldInt64A2S.f k l0 a1 = some r) :
    Calls Try.prog 35 #[.slice A0 l0.length c0, .int .i64 a1] w fun e w' => e = .returned (.int .i64 r) ∧ Drawn0 w w' := by
  have hu := Try.underlying40
  have HR := Aside0.mk hr0
  clear hr0
  have H' := Aside0.mk (show laws_heldInt64A2S.l0 k l0 a1 0 = some r from h)
  clear h
  go_enter Try.func35, Try.ntmps35
  go_wp2
  go_loopg [1, 5, 6] k (fun kq v1 v5 v6 w' => ∃ (x1_1 : Int) (x5_1 : Int), v1 = .int .i64 x1_1 ∧ v5 = .int .i64 x5_1 ∧ Aside0 (laws_heldInt64A2S.l0 kq l0 x1_1 x5_1 = some r) ∧ Aside0 (kq ≤ k) ∧ w' = w)
  case atStart => exact ⟨a1, 0, rfl, rfl, H', ⟨Nat.le_refl _⟩, rfl⟩
  case round =>
    clear H'
    obtain ⟨x1, x5, rfl, rfl, HA, HK1, rfl⟩ := hrel
    cases gk with
    | zero => exact absurd HA.out (by simp [laws_heldInt64A2S.l0])
    | succ k1 =>
      have H := HA.out
      clear HA
      simp only [laws_heldInt64A2S.l0] at H
      by_cases c3 : x5 < (l0.length : Int)
      · rw [if_pos c3] at H
        by_cases c4 : 0 ≤ x5
        · rw [if_pos c4] at H
          have H' := Aside0.mk H
          clear H
          obtain ⟨ad, rfl, h0, h1⟩ := at_T40 HR.out x5 c4 c3
          have d3 : decide (x5 < (l0.length : Int)) = true := decide_eq_true c3
          have q0 := eq_true c4
          have q1 := eq_true c3
          go_wp2
          go_loopw [1, 6] (fun v1 v6 w' => ∃ (j : Nat), ((j = 0 ∧ v1 = .int .i64 x1) ∨ (j = 1 ∧ v1 = .int .i64 (wrap64 (x1 + 1)) ∧ Aside0 ((rd_T40 l0 x5).f0 = x1)) ∨ (j = 2 ∧ v1 = .int .i64 (wrap64 (wrap64 (x1 + 1) + 1)) ∧ Aside0 ((rd_T40 l0 x5).f0 = x1) ∧ Aside0 ((rd_T40 l0 x5).f1 = wrap64 (x1 + 1)))) ∧ v6 = .int .i64 j ∧ w' = wr) (fun _ v6 _ => 2 - (intOf v6).toNat)
          case atStart => exact ⟨0, .inl ⟨rfl, rfl⟩, rfl, rfl⟩
          case round =>
            obtain ⟨j, hcase, rfl, rfl⟩ := hrel
            rcases hcase with ⟨rfl, rfl⟩ | ⟨rfl, rfl, F0⟩ | ⟨rfl, rfl, F0, F1⟩
            · by_cases e0 : (rd_T40 l0 x5).f0 = x1
              · have E0 := Aside0.mk e0
                have n0 : ((rd_T40 l0 x5).f0 != x1) = false := bne_eq_false_iff_eq.mpr e0
                clear e0
                go_wp2
                go_roundw
                case rel => exact ⟨1, .inr (.inl ⟨rfl, by go_num, E0⟩), by go_num, by simp⟩
                case measure => simp [intOf]
              · have n0 : ((rd_T40 l0 x5).f0 != x1) = true := bne_iff_ne.mpr e0
                have hr := H'.out
                rw [if_neg e0] at hr
                obtain rfl := Option.some.inj hr
                clear hr e0 H'
                go_wp2
                go_ret
                exact ⟨rfl, Drawn0.refl _⟩
            · by_cases e1 : (rd_T40 l0 x5).f1 = wrap64 (x1 + 1)
              · have E1 := Aside0.mk e1
                have n1 : ((rd_T40 l0 x5).f1 != wrap64 (x1 + 1)) = false := bne_eq_false_iff_eq.mpr e1
                clear e1
                go_wp2
                go_roundw
                case rel => exact ⟨2, .inr (.inr ⟨rfl, by go_num, F0, E1⟩), by go_num, by simp⟩
                case measure => simp [intOf]
              · have n1 : ((rd_T40 l0 x5).f1 != wrap64 (x1 + 1)) = true := bne_iff_ne.mpr e1
                have hr := H'.out
                rw [if_pos F0.out, if_neg e1] at hr
                obtain rfl := Option.some.inj hr
                clear hr e1 H' F0
                go_wp2
                go_ret
                exact ⟨rfl, Drawn0.refl _⟩
            · have H2 := Aside0.mk (by have := H'.out; rw [if_pos F0.out, if_pos F1.out] at this; exact this)
              clear H' F0 F1
              go_wp2
              go_roundg k1
              case measure => have := HK1.out; omega
              case rel => exact ⟨_, _, rfl, by go_num, H2, ⟨by have := HK1.out; omega⟩, rfl⟩
        · rw [if_neg c4] at H
          exact absurd H (by simp)
      · rw [if_neg c3] at H
        obtain rfl := Option.some.inj H
        have d3 : decide (x5 < (l0.length : Int)) = false := decide_eq_false c3
        clear H
        go_wp2
        go_ret
        exact ⟨rfl, Drawn0.refl _⟩
end Go.Proofs.Ytmheflciiodhdaa.P
-- Written by wip/tools/mkprint.py of this repo, over the kit's print, out of the translation; Lean checks it.
namespace Go.Proofs.Ytmheflciiodhdaa.P
open Go.RowKit Go.Proofs.YtmheflciiodhdaaW.PrintWords Go.Proofs.YtmheflciiodhdaaW.PrintLast Go.Proofs.YtmheflciiodhdaaW.PrintMore
attribute [local go_sem] max2_int min2_int max_two min_two max_three min_three max_four min_four   -- for this text's walks alone
set_option linter.unusedVariables false
set_option linter.unusedSimpArgs false
/-! ### laws_markInt64A2S: given -/
def laws_markInt64A2S.l0 : Nat → List S40 → Int → Int → Option (Int × List S40)
  | 0, _, _, _ => none
  | k + 1, x0, x1, x5 => if x5 < (x0.length : Int) then (if 0 ≤ x5 then laws_markInt64A2S.l0 k ((x0.set x5.toNat ⟨x1, (rd_T40 x0 x5).f1⟩).set x5.toNat ⟨x1, wrap64 (x1 + 1)⟩) (wrap64 (wrap64 (x1 + 1) + 1)) (wrap64 (x5 + 1)) else none) else some (x1, x0)
def laws_markInt64A2S.f (k : Nat) (l0 : List S40) (a1 : Int) : Option (Int × List S40) := laws_markInt64A2S.l0 k l0 a1 0
theorem laws_markInt64A2S.mono_l : ∀ k, ∀ y0 y1 y2, LeO (laws_markInt64A2S.l0 k y0 y1 y2) (laws_markInt64A2S.l0 (k + 1) y0 y1 y2)
  | 0 => fun _ _ _ r h => by simp [laws_markInt64A2S.l0] at h
  | k + 1 => fun y0 y1 y2 => by
    unfold laws_markInt64A2S.l0
    exact LeO.ite (LeO.ite (laws_markInt64A2S.mono_l k _ _ _) (LeO.none _)) (LeO.refl _)
theorem laws_markInt64A2S.mono : ∀ a0 a1 k, LeO (laws_markInt64A2S.f k a0 a1) (laws_markInt64A2S.f (k + 1) a0 a1) := fun _ _ k => laws_markInt64A2S.mono_l k _ _ _
set_option maxHeartbeats 8000000 in
set_option maxRecDepth 100000 in
theorem laws_markInt64A2S.calls (k : Nat) (P0_ : Nat → Prop) (u9000_ : Value) (l0 : List S40) (a1 : Int) (r1 : Int) (r2 : List S40) (w0 w : World) (hB : Below w0.heap.size w0 w) (ho0 : Kd.R k40 40 w w0.heap.size P0_ u9000_ l0) (h : laws_markInt64A2S.f k l0 a1 = some (r1, r2)) :
    Calls Try.prog 34 #[u9000_, .int .i64 a1] w fun e w' => e = .returned (.int .i64 r1) ∧ Kd.R k40 40 w' w0.heap.size (fun k_ => (P0_ k_ ∨ w.heap.size ≤ k_)) u9000_ r2 ∧ Below w0.heap.size w0 w' ∧ Kept w w' (fun k_ => P0_ k_) := by
  have hu := Try.underlying40
  have HO0 := Aside0.mk (show Kd.R k40 40 w w0.heap.size (fun k_ => (P0_ k_ ∨ w.heap.size ≤ k_)) u9000_ l0 from Kd.R_mono ho0 (fun k_ hk => (.inl hk)))
  have HK := Aside0.mk (Kept.refl w (fun k_ => P0_ k_))
  have HB := Aside0.mk hB
  clear hB ho0
  have H' := Aside0.mk (show laws_markInt64A2S.l0 k l0 a1 0 = some (r1, r2) from h)
  clear h
  go_enter Try.func34, Try.ntmps34
  go_wp2
  go_loopg [1, 5, 6] k (fun kq v1 v5 v6 w' => ∃ (x0_1 : List S40) (x1_1 : Int) (x5_1 : Int), v1 = .int .i64 x1_1 ∧ v5 = .int .i64 x5_1 ∧ Aside0 (laws_markInt64A2S.l0 kq x0_1 x1_1 x5_1 = some (r1, r2)) ∧ Aside0 (kq ≤ k) ∧ Aside0 (Kd.R k40 40 w' w0.heap.size (fun k_ => (P0_ k_ ∨ w.heap.size ≤ k_)) u9000_ x0_1) ∧ Aside0 (Kept w w' (fun k_ => P0_ k_)) ∧ Aside0 (Below w0.heap.size w0 w'))
  case atStart => exact ⟨l0, a1, 0, rfl, rfl, H', ⟨Nat.le_refl _⟩, HO0, HK, HB⟩
  case round =>
    clear H' HO0 HK HB
    obtain ⟨y, x1, x5, rfl, rfl, HA, HK1, HO, HK, HB⟩ := hrel
    cases gk with
    | zero => exact absurd HA.out (by simp [laws_markInt64A2S.l0])
    | succ k1 =>
      have H := HA.out
      clear HA
      simp only [laws_markInt64A2S.l0] at H
      by_cases c3 : x5 < (y.length : Int)
      · rw [if_pos c3] at H
        by_cases c4 : 0 ≤ x5
        · rw [if_pos c4] at H
          have H' := Aside0.mk H
          clear H
          obtain ⟨A, c, rfl⟩ := Kd.R_slice HO.out
          obtain ⟨go, co, eo, gb, -, cl, HG⟩ := Kd.R_form HO.out (by omega)
          obtain ⟨rfl, -, rfl⟩ : A = some ⟨go, 0, none⟩ ∧ _ ∧ c = co := by injection eo with h1 h2 h3; exact ⟨h1, h2, h3⟩
          clear eo
          have GB := Aside0.mk gb
          have HM := Aside0.mk (show (P0_ go ∨ w.heap.size ≤ go) from HO.out.1 _ rfl)
          clear gb HG
          obtain ⟨wo, rfl⟩ : ∃ wo : World, wo = wr := ⟨_, rfl⟩
          have d3 : decide (x5 < (y.length : Int)) = true := decide_eq_true c3
          go_wp2
          go_loopw [1, 6] (fun v1 v6 w' => ∃ (j : Nat) (z : List S40), ((j = 0 ∧ v1 = .int .i64 x1 ∧ z = y) ∨ (j = 1 ∧ v1 = .int .i64 (wrap64 (x1 + 1)) ∧ z = y.set x5.toNat ⟨x1, (rd_T40 y x5).f1⟩) ∨ (j = 2 ∧ v1 = .int .i64 (wrap64 (wrap64 (x1 + 1) + 1)) ∧ z = (y.set x5.toNat ⟨x1, (rd_T40 y x5).f1⟩).set x5.toNat ⟨x1, wrap64 (x1 + 1)⟩)) ∧ v6 = .int .i64 j ∧ Aside0 (Kd.R k40 40 w' w0.heap.size (fun k_ => (P0_ k_ ∨ w.heap.size ≤ k_)) (.slice (some ⟨go, 0, none⟩) y.length c) z) ∧ Aside0 (Kept w w' (fun k_ => P0_ k_)) ∧ Aside0 (Below w0.heap.size w0 w')) (fun _ v6 _ => 2 - (intOf v6).toNat)
          case atStart => exact ⟨0, y, .inl ⟨rfl, rfl, rfl⟩, rfl, HO, HK, HB⟩
          case round =>
            clear HO HK HB
            obtain ⟨j, z, hcase, rfl, HO, HK, HB⟩ := hrel
            have hzl : z.length = y.length := by rcases hcase with ⟨_, _, rfl⟩ | ⟨_, _, rfl⟩ | ⟨_, _, rfl⟩ <;> simp
            have HZL := Aside0.mk hzl
            clear hzl
            rcases hcase with ⟨rfl, rfl, hz⟩ | ⟨rfl, rfl, hz⟩ | ⟨rfl, rfl, hz⟩
            · have HZ := Aside0.mk hz
              clear hz
              obtain ⟨ce, hcl, hM, hcc, hfr⟩ := Kd.R_elem HO.out z40 x5 c4 c3
              obtain rfl := k40_openM hM
              have HP := Kd.R_seg HO.out x5 c4 c3 (seg := [.int .i64 x1]) (j := 0) hcl hcc (show 0 + 1 ≤ 2 from by decide) (x' := (⟨x1, (rd_T40 z x5).f1⟩ : S40)) (k40_mkM _ _ _ (⟨x1, (rd_T40 z x5).f1⟩ : S40)) (fun _ hk => hk)
              have hx := hcc 0 _ rfl
              have hf := hfr 0
              simp only [show (k40).sz = 2 from rfl, Nat.add_zero] at hx hf
              clear hcl hcc hfr hM
              have HPP := Aside0.mk HP
              clear HP
              have q0 := eq_true c4
              have q1 := eq_true c3
              go_wp2
              go_roundw
              case rel =>
                refine ⟨0 + 1, _, .inr (.inl ⟨rfl, by go_num, by rw [HZ.out]⟩), by go_num, ⟨HPP.out.1⟩, ⟨Kept.of_grown HPP.out.2 HK.out (fun k_ e_ => (HO.out.1 k_ e_))⟩, ⟨below_set HB.out GB.out⟩⟩
              case measure => simp [intOf]
            · have HZ := Aside0.mk hz
              clear hz
              obtain ⟨ce, hcl, hM, hcc, hfr⟩ := Kd.R_elem HO.out z40 x5 c4 c3
              obtain rfl := k40_openM hM
              have HP := Kd.R_seg HO.out x5 c4 c3 (seg := [.int .i64 (wrap64 (x1 + 1))]) (j := 1) hcl hcc (show 1 + 1 ≤ 2 from by decide) (x' := (⟨(rd_T40 z x5).f0, wrap64 (x1 + 1)⟩ : S40)) (k40_mkM _ _ _ (⟨(rd_T40 z x5).f0, wrap64 (x1 + 1)⟩ : S40)) (fun _ hk => hk)
              have hx := hcc 1 _ rfl
              have hf := hfr 1
              simp only [show (k40).sz = 2 from rfl, Nat.add_zero] at hx hf
              clear hcl hcc hfr hM
              have HPP := Aside0.mk HP
              clear HP
              have q0 := eq_true c4
              have q1 := eq_true c3
              go_wp2
              go_roundw
              case rel =>
                refine ⟨1 + 1, _, .inr (.inr ⟨rfl, by go_num, by rw [HZ.out]; simp [rd_T40, show x5.toNat < y.length by omega]⟩), by go_num, ⟨HPP.out.1⟩, ⟨Kept.of_grown HPP.out.2 HK.out (fun k_ e_ => (HO.out.1 k_ e_))⟩, ⟨below_set HB.out GB.out⟩⟩
              case measure => simp [intOf]
            · have HZ := Aside0.mk hz
              clear hz
              go_wp2
              go_roundg k1
              case measure => have := HK1.out; omega
              case rel => exact ⟨z, _, _, rfl, by go_num, by rw [HZ.out]; exact H', ⟨by have := HK1.out; omega⟩, HO, HK, HB⟩
        · rw [if_neg c4] at H
          exact absurd H (by simp)
      · rw [if_neg c3] at H
        simp only [Option.some.injEq, Prod.mk.injEq] at H
        obtain ⟨rfl, rfl⟩ := H
        obtain ⟨A, c, rfl⟩ := Kd.R_slice HO.out
        have d3 : decide (x5 < (y.length : Int)) = false := decide_eq_false c3
        go_wp2
        go_ret
        exact ⟨rfl, HO.out, HB.out, HK.out⟩
end Go.Proofs.Ytmheflciiodhdaa.P
-- Written by wip/tools/mkprint.py of this repo, over the kit's print, out of the translation; Lean checks it.
namespace Go.Proofs.Ytmheflciiodhdaa.P
open Go.RowKit Go.Proofs.YtmheflciiodhdaaW.PrintWords Go.Proofs.YtmheflciiodhdaaW.PrintLast Go.Proofs.YtmheflciiodhdaaW.PrintMore
attribute [local go_sem] max2_int min2_int max_two min_two max_three min_three max_four min_four   -- for this text's walks alone
set_option linter.unusedVariables false
set_option linter.unusedSimpArgs false
/-! ### laws_FnExactMissedWalks: function 5 -/
mutual
def laws_FnExactMissedWalks.j0 : Nat → List Int → List (S94) → Int → List Int → List (S40) → Int → List Int → List (S38) → List Int → List (S40) → Int → Bool → Option (Bool)
  | 0, _, _, _, _, _, _, _, _, _, _, _, _ => none
  | k + 1, x0, x1, x2, x3, x10, x11, x12, x13, x14, x15, x16, x66 => if x66 = true then (some false) else ((laws_toRow.f k x0).bind fun t495 => ((laws_eqRow.f k x12 t495).bind fun t498 => (if t498 = true then ((laws_toWalkerS.f k x1).bind fun t499 => ((laws_eqWalkerS.f k x13 t499).bind fun t502 => (if t502 = true then ((laws_toRow.f k x3).bind fun t503 => ((laws_eqRow.f k x14 t503).bind fun t506 => (if t506 = true then ((laws_markRow.f k x12 1).bind fun bt507 => ((laws_markWalkerS.f k x13 bt507.1).bind fun bt509 => ((laws_markRow.f k x14 bt509.1).bind fun bt511 => (if bt511.1 < 0 then (laws_FnExactMissedWalks.j1 k x0 x1 x2 x3 x10 x11 x15 true) else ((laws_eqInt64A2S.f k x15 x10).bind fun t513 => (if t513 = true then (laws_FnExactMissedWalks.j1 k x0 x1 x2 x3 x10 x11 x15 (x16 != x11)) else (laws_FnExactMissedWalks.j1 k x0 x1 x2 x3 x10 x11 x15 true))))))) else (some false)))) else (some false)))) else (some false))))
def laws_FnExactMissedWalks.j1 : Nat → List Int → List (S94) → Int → List Int → List (S40) → Int → List (S40) → Bool → Option (Bool)
  | 0, _, _, _, _, _, _, _, _ => none
  | k + 1, x0, x1, x2, x3, x10, x11, x15, x103 => if x103 = true then (some false) else ((laws_markInt64A2S.f k x15 1).bind fun bt514 => ((laws_heldInt64A2S.f k bt514.2 1).bind fun t516 => (if t516 < 0 then (some false) else (if t516 = bt514.1 then ((laws_toRow.f k x0).bind fun t517 => ((laws_toWalkerS.f k x1).bind fun t520 => ((laws_toRow.f k x3).bind fun t523 => ((impl_MissedWalks.f k t517 t520 x2 t523).bind fun bt526 => ((laws_eqInt64A2S.f k bt526.1 x10).bind fun t530 => (if t530 = true then (laws_FnExactMissedWalks.j2 k bt514.2 bt514.1 (bt526.2 != x11)) else (laws_FnExactMissedWalks.j2 k bt514.2 bt514.1 true))))))) else (some false)))))
def laws_FnExactMissedWalks.j2 : Nat → List (S40) → Int → Bool → Option (Bool)
  | 0, _, _, _ => none
  | k + 1, x15, x18, x134 => if x134 = true then (some false) else ((laws_heldInt64A2S.f k x15 1).bind fun t531 => (if t531 < 0 then (some false) else (if t531 = x18 then (some true) else (some false))))
end
def laws_FnExactMissedWalks.f (k : Nat) (l0 : List Int) (l1 : List (S94)) (a2 : Int) (l3 : List Int) : Option (Bool) := if (l0.length : Int) > 1048576 then (some true) else (if (l3.length : Int) > 1048576 then (some true) else ((laws_szWalkerS.f l1 1048576).bind fun t467 => (if t467 < 0 then (some true) else ((laws_toRow.f k l0).bind fun t468 => ((laws_toWalkerS.f k l1).bind fun t471 => ((laws_toRow.f k l3).bind fun t474 => ((spec_MissedWalks.f k t468 t471 a2 t474).bind fun bt477 => ((laws_toRow.f k l0).bind fun t481 => ((laws_toWalkerS.f k l1).bind fun t484 => ((laws_toRow.f k l3).bind fun t487 => ((impl_MissedWalks.f k t481 t484 a2 t487).bind fun bt490 => ((laws_eqInt64A2S.f k bt490.1 bt477.1).bind fun t494 => (if t494 = true then (laws_FnExactMissedWalks.j0 k l0 l1 a2 l3 bt477.1 bt477.2 t481 t484 t487 bt490.1 bt490.2 (bt490.2 != bt477.2)) else (laws_FnExactMissedWalks.j0 k l0 l1 a2 l3 bt477.1 bt477.2 t481 t484 t487 bt490.1 bt490.2 true))))))))))))))
end Go.Proofs.Ytmheflciiodhdaa.P
/- MissedWalks: the program's list of walks that may have been missed, and the reference's, are the same. -/
namespace Go.Proofs.Ytmheflciiodhdaa.P
open Go.RowKit Go.Proofs.YtmheflciiodhdaaW.PrintWords Go.Proofs.YtmheflciiodhdaaW.PrintLast Go.Proofs.YtmheflciiodhdaaW.PrintMore
set_option linter.unusedVariables false
theorem w8 {x : Int} (h0 : -128 ≤ x) (h1 : x ≤ 127) : IntKind.i8.wrap x = x := by
  simp [IntKind.wrap, IntKind.signed, IntKind.bits]
  omega
theorem eqInt64A2S_ev (xs : List S40) (hn : xs.length ≤ 1048576) : Ev (fun k => laws_eqInt64A2S.f k xs xs) true := by
  have key := Ev.loop (fun k (_ : Unit) i => laws_eqInt64A2S.l0 k xs xs i) xs.length (fun _ _ => True) true ?_ ?_ xs.length 0 () (by omega) trivial
  · refine Ev.congr (fun k => ?_) key
    unfold laws_eqInt64A2S.f
    rw [if_pos rfl]; simp
  · intro i s hi _
    refine ⟨(), trivial, fun h => Ev.step (fun k => ?_) h⟩
    simp only [laws_eqInt64A2S.l0, laws_eqInt64A2.f]
    rw [if_pos (by omega), if_pos (by omega), if_pos (by omega), w64 (by omega) (by omega)]
    simp
  · exact fun _ _ => Ev.one (fun k => by simp only [laws_eqInt64A2S.l0]; rw [if_neg (by omega)])
def pairsFrom (a : Int) : Nat → List S40
  | 0 => []
  | n + 1 => ⟨a, a + 1⟩ :: pairsFrom (a + 2) n
theorem pairsFrom_len : ∀ (n : Nat) (a : Int), (pairsFrom a n).length = n
  | 0, _ => rfl
  | n + 1, a => by simp [pairsFrom, pairsFrom_len n]
theorem rd_pairsFrom : ∀ (n : Nat) (a : Int) (i : Nat), i < n → rd_T40 (pairsFrom a n) i = ⟨a + 2 * i, a + 2 * i + 1⟩
  | n + 1, a, 0, _ => by simp [pairsFrom, rd_T40]
  | n + 1, a, i + 1, h => by
    have := rd_pairsFrom n (a + 2) i (by omega)
    simp [rd_T40, pairsFrom] at this ⊢
    rw [this]
    simp; omega
theorem markInt64A2S_ev (xs : List S40) (hn : xs.length ≤ 1048576) : Ev (fun k => laws_markInt64A2S.f k xs 1) (1 + 2 * (xs.length : Int), pairsFrom 1 xs.length) := by
  have key := Ev.loop (fun k (s : List S40 × Int) i => laws_markInt64A2S.l0 k s.1 s.2 i) xs.length (fun i s => s.1.length = xs.length ∧ s.2 = 1 + 2 * i ∧ s.1.take i = (pairsFrom 1 xs.length).take i) (1 + 2 * (xs.length : Int), pairsFrom 1 xs.length) ?_ ?_ xs.length 0 (xs, 1) (by omega) (by simp)
  · exact Ev.congr (fun k => by simp [laws_markInt64A2S.f]) key
  · rintro i ⟨s, a⟩ hi ⟨hl, ha, ht⟩
    simp only at hl ha ht
    refine ⟨(s.set i ⟨a, a + 1⟩, 1 + 2 * ((i + 1 : Nat) : Int)), ⟨by simpa using hl, rfl, ?_⟩, fun h => Ev.step (fun k => ?_) h⟩
    · have h1 := rd_pairsFrom xs.length 1 i hi
      rw [← ha] at h1
      rw [List.take_succ_eq_append_getElem (by simpa [hl] using hi), List.take_succ_eq_append_getElem (by rw [pairsFrom_len]; exact hi), List.take_set_of_le (by omega), ht]
      simp [rd_T40, pairsFrom_len, hi] at h1
      simp [h1]
    · simp only [laws_markInt64A2S.l0]
      rw [if_pos (by omega), if_pos (by omega), w64 (x := a + 1) (by omega) (by omega), w64 (by omega) (by omega), w64 (by omega) (by omega), show a + 1 + 1 = 1 + 2 * ((i + 1 : Nat) : Int) by omega]; simp
  · rintro ⟨s, a⟩ ⟨hl, ha, ht⟩
    simp only at hl ha ht
    obtain rfl := eq_of_take (a := s) (b := pairsFrom 1 xs.length) (by rw [pairsFrom_len]; exact hl) (by rw [pairsFrom_len]; exact ht)
    exact Ev.one (fun k => by simp only [laws_markInt64A2S.l0]; rw [if_neg (by rw [pairsFrom_len]; omega), ha])
theorem heldInt64A2S_ev (n : Nat) (hn : n ≤ 1048576) : Ev (fun k => laws_heldInt64A2S.f k (pairsFrom 1 n) 1) (1 + 2 * (n : Int)) := by
  have key := Ev.loop (fun k (a : Int) i => laws_heldInt64A2S.l0 k (pairsFrom 1 n) a i) n (fun i a => a = 1 + 2 * i) (1 + 2 * (n : Int)) ?_ ?_ n 0 1 (by omega) (by simp)
  · exact Ev.congr (fun k => by simp [laws_heldInt64A2S.f]) key
  · rintro i a hi rfl
    refine ⟨_, rfl, fun h => Ev.step (fun k => ?_) h⟩
    simp only [laws_heldInt64A2S.l0]
    rw [w64 (x := 1 + 2 * (i : Int) + 1) (by omega) (by omega), w64 (x := (i : Int) + 1) (by omega) (by omega), w64 (x := 1 + 2 * (i : Int) + 1 + 1) (by omega) (by omega)]
    rw [if_pos (by rw [pairsFrom_len]; omega), if_pos (by omega), rd_pairsFrom _ _ _ hi, if_pos rfl, if_pos rfl, show 1 + 2 * (i : Int) + 1 + 1 = 1 + 2 * ((i + 1 : Nat) : Int) by omega]
  · rintro a rfl
    exact Ev.one (fun k => by simp only [laws_heldInt64A2S.l0]; rw [if_neg (by rw [pairsFrom_len]; omega)])
/-- Two rows are compared. -/
theorem all_eq_of_take {a b : List Int} (hl : a.length = b.length) {i : Nat} (hi : i < a.length) (h : a.take i = b.take i) (he : rd a i = rd b i) : a.take (i + 1) = b.take (i + 1) := by
  rw [List.take_succ_eq_append_getElem hi, List.take_succ_eq_append_getElem (by omega : i < b.length), h]
  rw [rd_lt hi, rd_lt (by omega : i < b.length)] at he
  rw [he]
theorem implEqual_ev (a b : List Int) (hn : a.length ≤ 1048576) : Ev (fun k => impl_Row_uint8_73.f k a b) (decide (a = b)) := by
  by_cases hl : a.length = b.length
  case neg =>
    refine Ev.some (fun k => ?_)
    unfold impl_Row_uint8_73.f
    rw [if_neg (by omega), decide_eq_false (fun h => hl (by rw [h]))]
  have key : ∀ (d i : Nat), i + d = a.length → a.take i = b.take i → Ev (fun k => impl_Row_uint8_73.l0 k a b (a.length : Int) (i : Int)) (decide (a = b)) := by
    intro d
    induction d with
    | zero =>
      intro i hi ht
      obtain rfl : i = a.length := by omega
      obtain rfl : a = b := by rw [List.take_length, hl, List.take_length] at ht; exact ht
      refine Ev.one (fun k => ?_)
      simp only [impl_Row_uint8_73.l0]
      rw [if_neg (by omega)]; simp
    | succ d ih =>
      intro i hi ht
      by_cases he : rd a (i : Int) = rd b (i : Int)
      · refine Ev.step (f := fun k => impl_Row_uint8_73.l0 k a b (a.length : Int) ((i + 1 : Nat) : Int)) (fun k => ?_) (ih (i + 1) (by omega) (all_eq_of_take hl (by omega) ht he))
        simp only [impl_Row_uint8_73.l0]
        rw [if_pos (by omega), if_pos (by omega), if_pos (by omega), if_pos (by omega), if_pos he, w64 (by omega) (by omega)]; simp
      · refine Ev.one (fun k => ?_)
        simp only [impl_Row_uint8_73.l0]
        rw [if_pos (by omega), if_pos (by omega), if_pos (by omega), if_pos (by omega), if_neg he, decide_eq_false (fun h => he (by rw [h]))]
  refine Ev.congr (fun k => ?_) (key a.length 0 (by omega) (by simp))
  unfold impl_Row_uint8_73.f
  rw [if_pos (by omega)]; simp
theorem specSame_ev (a b : List Int) (hn : a.length ≤ 1048576) : Ev (fun k => spec_SameRow.f k a b) (decide (a = b)) := by
  by_cases hl : a.length = b.length
  case neg =>
    refine Ev.some (fun k => ?_)
    unfold spec_SameRow.f
    rw [if_neg (by omega), decide_eq_false (fun h => hl (by rw [h]))]
  have key : ∀ (d i : Nat), i + d = a.length → a.take i = b.take i → Ev (fun k => spec_SameRow.l0 k a b (i : Int)) (decide (a = b)) := by
    intro d
    induction d with
    | zero =>
      intro i hi ht
      obtain rfl : i = a.length := by omega
      obtain rfl : a = b := by rw [List.take_length, hl, List.take_length] at ht; exact ht
      refine Ev.one (fun k => ?_)
      simp only [spec_SameRow.l0]
      rw [if_neg (by omega)]; simp
    | succ d ih =>
      intro i hi ht
      by_cases he : rd a (i : Int) = rd b (i : Int)
      · refine Ev.step (f := fun k => spec_SameRow.l0 k a b ((i + 1 : Nat) : Int)) (fun k => ?_) (ih (i + 1) (by omega) (all_eq_of_take hl (by omega) ht he))
        simp only [spec_SameRow.l0]
        rw [if_pos (by omega), if_pos (by omega), if_pos (by omega), if_pos he, w64 (by omega) (by omega)]; simp
      · refine Ev.one (fun k => ?_)
        simp only [spec_SameRow.l0]
        rw [if_pos (by omega), if_pos (by omega), if_pos (by omega), if_neg he, decide_eq_false (fun h => he (by rw [h]))]
  refine Ev.congr (fun k => ?_) (key a.length 0 (by omega) (by simp))
  unfold spec_SameRow.f
  rw [if_pos (by omega)]; simp
/-- The days on which a walker comes; the walks of all whose going back would show what is seen. -/
def daysOn (x : S38) (i : Int) : Nat → Int → List S40 → List S40
  | 0, _, acc => acc
  | n + 1, d, acc => daysOn x i n (d + 1) (if onB x d = true then acc ++ [⟨i, d⟩] else acc)
def backRow (x : S38) (row : List Int) : List Int := rowBy (fun _ => -1) [x] row
def missPure (row seen : List Int) (day : Int) : List S38 → Int → List S40 → List S40
  | [], _, acc => acc
  | x :: r, i, acc => missPure row seen day r (i + 1) (if backRow x row = seen then daysOn x i (day + 1).toNat 0 acc else acc)
theorem daysOn_len (x : S38) (i : Int) : ∀ (n : Nat) (d : Int) (acc : List S40), (daysOn x i n d acc).length ≤ acc.length + n
  | 0, _, _ => by simp [daysOn]
  | n + 1, d, acc => by
    have := daysOn_len x i n (d + 1) (if onB x d = true then acc ++ [⟨i, d⟩] else acc)
    simp only [daysOn]
    refine Nat.le_trans this ?_
    split <;> simp <;> omega
theorem missPure_len (row seen : List Int) (day : Int) (h : day ≤ 400) : ∀ (ws : List S38) (i : Int) (acc : List S40), (missPure row seen day ws i acc).length ≤ acc.length + 401 * ws.length
  | [], _, _ => by simp [missPure]
  | x :: r, i, acc => by
    have h1 := missPure_len row seen day h r (i + 1) (if backRow x row = seen then daysOn x i (day + 1).toNat 0 acc else acc)
    have h2 := daysOn_len x i (day + 1).toNat 0 acc
    simp only [missPure]
    refine Nat.le_trans h1 ?_
    split <;> simp <;> omega
theorem implComes_eq {b : Int} {x : S38} (hx : WOk b x) {d : Int} (h0 : 0 ≤ d) (h1 : d ≤ 10000) : impl_Walker_comes.f x.f0 x.f1 x.f2 x.f3 x.f4 x.f5 d = some (onB x d) := by
  obtain ⟨⟨a0, b0⟩, ⟨a1, b1⟩, -, -, -, -⟩ := hx
  unfold impl_Walker_comes.f onB
  rw [w64 (x := x.f0) (by omega) (by omega), w64 (x := x.f1) (by omega) (by omega)]
  by_cases h : x.f0 ≤ d
  · rw [if_pos (by omega), if_neg (by omega), w64 (by omega) (by omega), tmod_nn (by omega)]; simp [h]; rfl
  · rw [if_neg (by omega)]; simp [h]
theorem missDays_eq {b : Int} {x : S38} (hx : WOk b x) (i : Int) : ∀ (n : Nat) (d : Int) (acc : List S40), 0 ≤ d → d + n ≤ 10001 → missDays x i n d acc = some (daysOn x i n d acc)
  | 0, _, _, _, _ => rfl
  | n + 1, d, acc, h0, h1 => by
    rw [missDays, implComes_eq hx h0 (by omega), Option.bind_some, missDays_eq hx i n (d + 1) _ (by omega) (by omega)]; rfl
theorem rowBy_ok {f : S38 → Int} {ws : List S38} {r : List Int} : ∀ x ∈ rowBy f ws r, 0 ≤ x ∧ x ≤ 255 := fun x hx => by have := rowBy_bd f ws r x hx; omega
theorem missAll_ev {r seen : List Int} {ws : List S38} {day : Int} (hb : 1 ≤ r.length) (hb1 : r.length ≤ 60) (hr : ∀ y ∈ r, 0 ≤ y ∧ y ≤ 255) (hw : ∀ x ∈ ws, WOk r.length x) (h8 : ws.length ≤ 8) (h0 : 0 ≤ day) (h1 : day ≤ 400) :
    ∀ (l : List S38) (i : Int) (acc : List S40), (∀ x ∈ l, x ∈ ws) → Ev (fun k => missAll k r ws day seen l i acc) (missPure (rowBy (fun x => untilZ x day) ws r) seen day l i acc)
  | [], _, acc, _ => Ev.pure acc
  | x :: l, i, acc, hl => by
    have hx := hw x (hl x List.mem_cons_self)
    have ih := fun acc' => missAll_ev (seen := seen) hb hb1 hr hw h8 h0 h1 l (i + 1) acc' (fun y hy => hl y (List.mem_cons_of_mem _ hy))
    have hrow := implRowOn_ev hb hb1 hr hw h8 h0 (by omega)
    have hwk := walked_ev (r := rowBy (fun x => untilZ x day) ws r) (by rw [rowBy_len]; exact hb) (by rw [rowBy_len]; exact hb1) rowBy_ok (fun _ => -1) [x] (by simp) (by rw [rowBy_len]; simpa using hx) (by simp)
    refine Ev.congr (fun k => by rw [missAll]) (Ev.bind hrow (Ev.bind hwk (Ev.bind (implEqual_ev (rowBy (fun _ => -1) [x] (rowBy (fun x => untilZ x day) ws r)) seen (by rw [rowBy_len, rowBy_len]; omega)) ?_)))
    simp only [missPure, decide_eq_true_eq]
    by_cases he : rowBy (fun _ => -1) [x] (rowBy (fun x => untilZ x day) ws r) = seen
    · simp only [if_pos (show backRow x (rowBy (fun x => untilZ x day) ws r) = seen from he), if_pos he, missDays_eq hx i (day + 1).toNat 0 acc (by omega) (by omega), Option.bind_some]; exact ih (daysOn x i (day + 1).toNat 0 acc)
    · simp only [if_neg (show ¬ backRow x (rowBy (fun x => untilZ x day) ws r) = seen from he), if_neg he, Option.bind_some]; exact ih acc
theorem neg_row {row : List Int} {x : S38} : rowBy (fun _ => 1) [⟨x.f0, x.f1, x.f2, x.f3, x.f4, -x.f5⟩] row = backRow x row := by
  refine ext_rd (by simp [rowBy_len, backRow]) (fun i hi => ?_)
  rw [rowBy_len] at hi
  rw [backRow, rowBy_rd hi, rowBy_rd hi, sumAt, sumAt, sumAt, sumAt]
  have : rd (vis row.length ⟨x.f0, x.f1, x.f2, x.f3, x.f4, -x.f5⟩) i = rd (vis row.length x) i := rfl
  rw [this]
  congr 1
  simp only [Int.mul_neg, Int.neg_mul, Int.one_mul]
theorem spec_missDays_eq {b : Int} {x : S38} (hx : WOk b x) (i : Int) : ∀ (n : Nat) (d : Int) (acc : List S40), 0 ≤ d → d + n ≤ 10001 → spec_missDays x i n d acc = some (daysOn x i n d acc)
  | 0, _, _, _, _ => rfl
  | n + 1, d, acc, h0, h1 => by
    rw [spec_missDays, specOn_eq hx h0 (by omega), Option.bind_some, spec_missDays_eq hx i n (d + 1) _ (by omega) (by omega)]; rfl
theorem spec_missAll_ev {row seen : List Int} {day : Int} (hb : 1 ≤ row.length) (hb1 : row.length ≤ 60) (hr : ∀ y ∈ row, 0 ≤ y ∧ y ≤ 255) (h0 : 0 ≤ day) (h1 : day ≤ 400) :
    ∀ (l : List S38) (i : Int) (acc : List S40), (∀ x ∈ l, WOk row.length x) → Ev (fun k => spec_missAll k row day seen l i acc) (missPure row seen day l i acc)
  | [], _, acc, _ => Ev.pure acc
  | x :: l, i, acc, hl => by
    have hx := hl x List.mem_cons_self
    have h5 := hx.h5
    have ih := fun acc' => spec_missAll_ev (seen := seen) hb hb1 hr h0 h1 l (i + 1) acc' (fun y hy => hl y (List.mem_cons_of_mem _ hy))
    have hback : WOk row.length (⟨x.f0, x.f1, x.f2, x.f3, x.f4, -x.f5⟩ : S38) := ⟨hx.h0, hx.h1, hx.h2, hx.h3, hx.h4, by constructor <;> simp only <;> omega⟩
    have ht := specTurned_ev (n := 1) hb hb1 hr hback
    rw [neg_row] at ht
    refine Ev.congr (f := fun k => (spec_l05Turned.f k row x.f0 x.f1 x.f2 x.f3 x.f4 (-x.f5) 1).bind fun wo => (spec_SameRow.f k wo seen).bind fun q => (if q = true then spec_missDays x i (day + 1).toNat 0 acc else some acc).bind fun acc' => spec_missAll k row day seen l (i + 1) acc') (fun k => by rw [spec_missAll, w8 (by omega) (by omega)]) (Ev.bind ht (Ev.bind (specSame_ev (backRow x row) seen (by rw [backRow, rowBy_len]; omega)) ?_))
    simp only [missPure, decide_eq_true_eq]
    by_cases he : backRow x row = seen
    · simp only [if_pos he, spec_missDays_eq hx i (day + 1).toNat 0 acc (by omega) (by omega), Option.bind_some]; exact ih (daysOn x i (day + 1).toNat 0 acc)
    · simp only [if_neg he, Option.bind_some]; exact ih acc
/-- Both tell the same. -/
theorem missed_both (r seen : List Int) (ws : List S38) (day : Int) (hr : ∀ x ∈ r, 0 ≤ x ∧ x ≤ 255) (ht : ∀ x ∈ ws, WT x) (hn : r.length ≤ 1048576) (hn2 : seen.length ≤ 1048576) (hm : ws.length ≤ 1048576) :
    ∃ o c, o.length ≤ 1048576 ∧ Ev (fun k => spec_MissedWalks.f k r ws day seen) (o, c) ∧ Ev (fun k => impl_MissedWalks.f k r ws day seen) (o, c) ∧ c = missCode r ws day seen ∧ (c = 0 → o = missPure (rowBy (fun x => untilZ x day) ws r) seen day ws 0 []) := by
  have hspec : ∀ (o : List S40) (c : Int), c = missCode r ws day seen → (c ≠ 0 → o = []) → (c = 0 → (0 ≤ day ∧ day ≤ 400 ∧ ws.length ≤ 8) ∧ Ev (fun k => (spec_l05Whole.f k r ws day).bind fun row => (spec_missAll k row day seen ws 0 []).bind fun r => some (r, (0 : Int))) (o, 0)) → Ev (fun k => spec_MissedWalks.f k r ws day seen) (o, c) := by
    intro o c hc hne he
    have hok := specOk_ev seen hn2
    have bad : missCode r ws day seen = 1 → (o, c) = (([] : List S40), (1 : Int)) := by
      intro h
      rw [hne (by omega), hc, h]
    unfold spec_MissedWalks.f
    refine Ev.bind hok ?_
    cases hv : validRow seen
    · rw [bad (by simp [missCode, hv, codeB])]
      exact Ev.some (fun k => by simp)
    · by_cases hl : (seen.length : Int) = (r.length : Int)
      case neg =>
        rw [bad (by simp [missCode, hv, codeB, show ((seen.length : Int) == (r.length : Int)) = false from beq_eq_false_iff_ne.mpr hl])]
        exact Ev.some (fun k => by simp [hl])
      · have hcode : missCode r ws day seen = codeB (rowOkB r ws) (inR 0 400 day) := by
          simp [missCode, hv, show ((seen.length : Int) == (r.length : Int)) = true from beq_iff_eq.mpr hl]
        have hj : ∀ q, codeB (rowOkB r ws) q = c → Ev (fun k => spec_MissedWalks.g k r ws day seen q) (o, c) := by
          intro q hq
          unfold spec_MissedWalks.g
          refine Ev.bind (specRow_ev r ws q hn hm) ?_
          rw [hq]
          by_cases h0 : c = 0
          · subst h0
            obtain ⟨hd, hev⟩ := he rfl
            simp only [if_true, if_pos hd]
            exact hev
          · simp only [if_neg h0]
            rw [hne h0]
            exact Ev.pure _
        simp only [if_true, if_pos hl, spec_l05Day.f, l00In_inR, Option.bind_some]
        cases hd : inR 0 10000 day
        · have := hj false (by
            rw [hc, hcode]
            congr 1
            have : ¬ (0 ≤ day ∧ day ≤ 10000) := fun h => by rw [← inR_iff] at h; rw [h] at hd; cases hd
            simp [inR]; omega)
          simpa using this
        · have := hj (decide (day ≤ 400)) (by
            rw [hc, hcode]
            congr 1
            have := inR_iff.mp hd
            simp [inR]; omega)
          simpa using this
  by_cases hc : missCode r ws day seen = 0
  · have hh := codeB_zero.mp hc
    simp only [Bool.and_eq_true] at hh
    have hday := inR_iff.mp hh.2
    have hrow := hh.1.1
    simp only [rowOkB, Bool.and_eq_true] at hrow
    obtain ⟨r1, r2, r3⟩ := row_of_valid hr hrow.1
    obtain ⟨-, h8, hw⟩ := WOk_of_valid ht hrow.2
    have hlen := missPure_len (rowBy (fun x => untilZ x day) ws r) seen day hday.2 ws 0 []
    refine ⟨missPure (rowBy (fun x => untilZ x day) ws r) seen day ws 0 [], 0, by simp at hlen; omega, hspec _ _ hc.symm (fun h => absurd rfl h) (fun _ => ⟨⟨hday.1, hday.2, h8⟩, ?_⟩), ?_, hc.symm, fun _ => rfl⟩
    · refine Ev.bind (specWhole_ev r1 r2 r3 hw h8 hday.1 (by omega)) (Ev.bind (spec_missAll_ev (seen := seen) (row := rowBy (fun x => untilZ x day) ws r) (by rw [rowBy_len]; exact r1) (by rw [rowBy_len]; exact r2) rowBy_ok hday.1 hday.2 ws 0 [] (by rw [rowBy_len]; exact hw)) (Ev.pure _))
    · have := missAll_ev (seen := seen) r1 r2 hr hw h8 hday.1 hday.2 ws 0 [] (fun _ h => h)
      refine Ev.congr (fun k => ?_) (Ev.bind this (f := fun _ t => some (t, (0 : Int))) (Ev.pure _))
      unfold impl_MissedWalks.f
      rw [if_pos hc]
  · refine ⟨[], missCode r ws day seen, by simp, hspec _ _ rfl (fun _ => rfl) (fun h => absurd h hc), ?_, rfl, fun h => absurd h hc⟩
    refine Ev.some (fun k => ?_)
    unfold impl_MissedWalks.f
    rw [if_neg hc]
theorem FnExactMissedWalks_ev (a0 : List Int) (a1 : List S94) (a2 : Int) (a3 : List Int) (g0 : (∀ x ∈ a0, (0 ≤ x ∧ x ≤ 255))) (b0 : a0.length ≤ 9223372036854775807) (g1 : (∀ x ∈ a1, (-32768 ≤ x.f0 ∧ x.f0 ≤ 32767) ∧ (-32768 ≤ x.f1 ∧ x.f1 ≤ 32767) ∧ (-32768 ≤ x.f2 ∧ x.f2 ≤ 32767) ∧ (-32768 ≤ x.f3 ∧ x.f3 ≤ 32767) ∧ (-32768 ≤ x.f4 ∧ x.f4 ≤ 32767) ∧ (-128 ≤ x.f5 ∧ x.f5 ≤ 127))) (b1 : a1.length ≤ 9223372036854775807) (g2 : (-9223372036854775808 ≤ a2 ∧ a2 ≤ 9223372036854775807)) (g3 : (∀ x ∈ a3, (0 ≤ x ∧ x ≤ 255))) (b3 : a3.length ≤ 9223372036854775807) : Ev (fun k => laws_FnExactMissedWalks.f k a0 a1 a2 a3) true := by
  have ht : ∀ x ∈ a1, WT (convW x) := fun x hx => by obtain ⟨h0, h1, h2, h3, h4, h5⟩ := g1 x hx; exact ⟨h0, h1, h2, h3, h4, h5⟩
  unfold laws_FnExactMissedWalks.f
  by_cases hn : (a0.length : Int) > 1048576
  · exact Ev.some (fun k => by rw [if_pos hn])
  by_cases hn3 : (a3.length : Int) > 1048576
  · exact Ev.some (fun k => by rw [if_neg hn, if_pos hn3])
  obtain ⟨bud, hbud⟩ := szWalkerS_ex a1
  simp only [if_neg hn, if_neg hn3, hbud, Option.bind_some]
  by_cases hm : bud < 0
  · exact Ev.some (fun k => by rw [if_pos hm])
  simp only [if_neg hm]
  have hmm := szWalkerS_some a1 b1 bud hbud hm
  have hrow := toRow_ev a0 (by omega)
  have hrow3 := toRow_ev a3 (by omega)
  have hws := toWalkerS_ev a1 hmm
  obtain ⟨o, c, ho, hs, hi, -, -⟩ := missed_both a0 a3 (a1.map convW) a2 g0 (by simpa using ht) (by omega) (by omega) (by simpa using hmm)
  obtain ⟨y1, hm1⟩ := markRow_ev a0 1 (by omega) (by omega) (by omega)
  obtain ⟨y2, hm2⟩ := markWalkerS_ev (a1.map convW) (1 + a0.length) (by omega) (by omega) (by simpa using hmm)
  have hmmap : (a1.map convW).length = a1.length := by simp
  obtain ⟨y3, hm3⟩ := markRow_ev a3 (1 + a0.length + 6 * (a1.map convW).length) (by omega) (by omega) (by omega)
  have hh := heldInt64A2S_ev o.length (by omega)
  have heq := eqInt64A2S_ev o ho
  refine Ev.bind hrow (Ev.bind hws (Ev.bind hrow3 (Ev.bind hs (Ev.bind hrow (Ev.bind hws (Ev.bind hrow3 (Ev.bind hi (Ev.bind heq ?_))))))))
  simp only [bne_self_eq_false, if_true]
  refine Ev.step (fun k => by rw [laws_FnExactMissedWalks.j0, if_neg (by decide)]) ?_
  refine Ev.bind hrow (Ev.bind (eqRow_ev a0 (by omega)) ?_)
  simp only [if_true]
  refine Ev.bind hws (Ev.bind (eqWalkerS_ev _ (by simpa using hmm)) ?_)
  simp only [if_true]
  refine Ev.bind hrow3 (Ev.bind (eqRow_ev a3 (by omega)) ?_)
  simp only [if_true]
  refine Ev.bind hm1 (Ev.bind hm2 (Ev.bind hm3 ?_))
  simp only [show ¬ (1 + (a0.length : Int) + 6 * ((a1.map convW).length : Int) + (a3.length : Int) < 0) by omega, if_false]
  refine Ev.bind heq ?_
  simp only [bne_self_eq_false, if_true]
  refine Ev.step (fun k => by rw [laws_FnExactMissedWalks.j1, if_neg (by decide)]) ?_
  refine Ev.bind (markInt64A2S_ev o ho) (Ev.bind hh ?_)
  simp only [show ¬ (1 + 2 * (o.length : Int) < 0) by omega, if_false, if_true]
  refine Ev.bind hrow (Ev.bind hws (Ev.bind hrow3 (Ev.bind hi (Ev.bind heq ?_))))
  simp only [bne_self_eq_false, if_true]
  refine Ev.step (fun k => by rw [laws_FnExactMissedWalks.j2, if_neg (by decide)]) ?_
  refine Ev.bind hh ?_
  simp only [show ¬ (1 + 2 * (o.length : Int) < 0) by omega, if_false, if_true]
  exact Ev.pure _
end Go.Proofs.Ytmheflciiodhdaa.P
-- Written by wip/tools/mkprint.py of this repo, over the kit's print, out of the translation; Lean checks it.
namespace Go.Proofs.Ytmheflciiodhdaa.P
open Go.RowKit Go.Proofs.YtmheflciiodhdaaW.PrintWords Go.Proofs.YtmheflciiodhdaaW.PrintLast Go.Proofs.YtmheflciiodhdaaW.PrintMore
attribute [local go_sem] max2_int min2_int max_two min_two max_three min_three max_four min_four   -- for this text's walks alone
set_option linter.unusedVariables false
set_option linter.unusedSimpArgs false
/-- A state of type 111 at block g of W; what its slices lead to came in by w0. -/
def IsS111 (w0 W : World) (g : Nat) (f0 : List Int) (f1 : Int) (f2 : Int) : Prop := ∃ A0 c0, W.heap[g]? = some (.cells #[.slice A0 f0.length c0, .int .i64 f1, .int .u64 f2] 111 (0, 0)) ∧ w0.heap.size ≤ g ∧ Kd.C (Kd.int .u8) w0 A0 f0.length f0
theorem IsS111.grown {w0 W : World} {g : Nat} {f0 : List Int} {f1 : Int} {f2 : Int} {W1 : World} {row : Option Nat} (h : IsS111 w0 W g f0 f1 f2) (hw : W.grownBy W1 row) (hne : some g ≠ row) : IsS111 w0 W1 g f0 f1 f2 := by
  obtain ⟨A0, c0, hb, hg, hr0⟩ := h
  exact ⟨A0, c0, blk_grown hb hw hne, hg, hr0⟩
theorem IsS111.own_neN {w0 W : World} {g : Nat} {f0 : List Int} {f1 : Int} {f2 : Int} {α : Type} {d : Kd α} {e : Nat} {base : Nat} {ok : Nat → Prop} {v : Value} {xs : List α} (h : IsS111 w0 W g f0 f1 f2) (ho : Kd.N d e W base ok v xs) (ht : e ≠ 111) : some g ≠ v.ownBlock := by
  obtain ⟨A0, c0, hb, hg, hr0⟩ := h
  exact Kd.N_ne ho hb ht
theorem IsS111.fresh {w0 W : World} {g : Nat} {f0 : List Int} {f1 : Int} {f2 : Int} (h : IsS111 w0 W g f0 f1 f2) : ∀ k, W.heap.size ≤ k → k ≠ g := by
  obtain ⟨A0, c0, hb, hg, hr0⟩ := h
  exact Kd.freshB hb
theorem IsS111.kept {w0 W : World} {g : Nat} {f0 : List Int} {f1 : Int} {f2 : Int} {W1 : World} {S : Nat → Prop} (h : IsS111 w0 W g f0 f1 f2) (hk : Kept W W1 S) (hne : ¬ S g) : IsS111 w0 W1 g f0 f1 f2 := by
  obtain ⟨A0, c0, hb, hg, hr0⟩ := h
  exact ⟨A0, c0, blk_kept hb hk hne, hg, hr0⟩
theorem IsS111.below {w0 W : World} {g : Nat} {f0 : List Int} {f1 : Int} {f2 : Int} {W1 : World} (h : IsS111 w0 W g f0 f1 f2) (hw : Below W.heap.size W W1) : IsS111 w0 W1 g f0 f1 f2 := h.grown (grown_of_below hw none) (by simp)
theorem IsS111.alloc {w0 W : World} {g : Nat} {f0 : List Int} {f1 : Int} {f2 : Int} (h : IsS111 w0 W g f0 f1 f2) (o : Obj) : IsS111 w0 (W.alloc o) g f0 f1 f2 := h.below (below_alloc (Below.refl _ _) o)
theorem IsS111.drewN {w0 W : World} {g : Nat} {f0 : List Int} {f1 : Int} {f2 : Int} (h : IsS111 w0 W g f0 f1 f2) (m : Nat) : IsS111 w0 (W.drewN m) g f0 f1 f2 := h
theorem IsS111.drew {w0 W : World} {g : Nat} {f0 : List Int} {f1 : Int} {f2 : Int} (h : IsS111 w0 W g f0 f1 f2) : IsS111 w0 W.drew g f0 f1 f2 := h
theorem IsS111.at_ {w0 W : World} {g : Nat} {f0 : List Int} {f1 : Int} {f2 : Int} {w' : World} {m : Nat} (hq : W.drewN m = w') (h : IsS111 w0 W g f0 f1 f2) : IsS111 w0 w' g f0 f1 f2 := by subst hq; exact IsS111.drewN h m
theorem IsS111.apart {w0 W : World} {g : Nat} {f0 : List Int} {f1 : Int} {f2 : Int} {α : Type} {d : Kd α} {e : Nat} {base : Nat} {ok : Nat → Prop} {v : Value} {xs : List α} (h : IsS111 w0 W g f0 f1 f2) (ho : d.R e W base ok v xs) (ht : ∀ q, q ∈ e :: d.E → q ≠ 111) : d.R e W base (fun k => ok k ∧ k ≠ g) v xs := by
  obtain ⟨A0, c0, hb, hg, hr0⟩ := h
  exact Kd.R_types ho hb ht
theorem IsS111.own_ne {w0 W : World} {g : Nat} {f0 : List Int} {f1 : Int} {f2 : Int} {α : Type} {d : Kd α} {e : Nat} {base : Nat} {ok : Nat → Prop} {v : Value} {xs : List α} (h : IsS111 w0 W g f0 f1 f2) (ho : d.R e W base ok v xs) (ht : e ≠ 111) : some g ≠ v.ownBlock := by
  obtain ⟨A0, c0, hb, hg, hr0⟩ := h
  exact Kd.R_ne ho hb ht
theorem IsS111.apartQ {w0 W : World} {g : Nat} {f0 : List Int} {f1 : Int} {f2 : Int} {α : Type} {d : Kd α} {e : Nat} {base : Nat} {ok : Nat → Prop} {v : Value} {xs : List α} (h : IsS111 w0 W g f0 f1 f2) (ho : d.Q e W base ok v xs) (ht : ∀ q, q ∈ e :: d.E → q ≠ 111) : d.Q e W base (fun k => ok k ∧ k ≠ g) v xs := by
  obtain ⟨A0, c0, hb, hg, hr0⟩ := h
  exact Kd.Q_types ho hb ht
theorem IsS111.own_neQ {w0 W : World} {g : Nat} {f0 : List Int} {f1 : Int} {f2 : Int} {α : Type} {d : Kd α} {e : Nat} {base : Nat} {ok : Nat → Prop} {v : Value} {xs : List α} (h : IsS111 w0 W g f0 f1 f2) (ho : d.Q e W base ok v xs) (ht : e ≠ 111) : some g ≠ v.ownBlock := by
  obtain ⟨A0, c0, hb, hg, hr0⟩ := h
  exact Kd.Q_ne ho hb ht
theorem IsS111.apartS {w0 W : World} {g : Nat} {f0 : List Int} {f1 : Int} {f2 : Int} {α : Type} {d : Kd α} {e : Nat} {base : Nat} {ok : Nat → Prop} {v : Value} {xs : List α} (h : IsS111 w0 W g f0 f1 f2) (ho : d.S e W base ok v xs) (ht : ∀ q, q ∈ e :: d.E → q ≠ 111) : d.S e W base (fun k => ok k ∧ k ≠ g) v xs := by
  obtain ⟨A0, c0, hb, hg, hr0⟩ := h
  exact Kd.S_types ho hb ht
theorem IsS111.own_neS {w0 W : World} {g : Nat} {f0 : List Int} {f1 : Int} {f2 : Int} {α : Type} {d : Kd α} {e : Nat} {base : Nat} {ok : Nat → Prop} {v : Value} {xs : List α} (h : IsS111 w0 W g f0 f1 f2) (ho : d.S e W base ok v xs) (ht : e ≠ 111) : some g ≠ v.ownBlock := by
  obtain ⟨A0, c0, hb, hg, hr0⟩ := h
  exact Kd.S_ne ho hb ht
theorem IsS111.lt {w0 W : World} {g : Nat} {f0 : List Int} {f1 : Int} {f2 : Int} (h : IsS111 w0 W g f0 f1 f2) : g < W.heap.size := by
  obtain ⟨A0, c0, hb, hg, hr0⟩ := h
  exact blk_lt hb
theorem IsS111.ge {w0 W : World} {g : Nat} {f0 : List Int} {f1 : Int} {f2 : Int} (h : IsS111 w0 W g f0 f1 f2) : w0.heap.size ≤ g := by
  obtain ⟨A0, c0, hb, hg, hr0⟩ := h
  exact hg
theorem IsS111.ne_blk {w0 W : World} {g : Nat} {f0 : List Int} {f1 : Int} {f2 : Int} {a : Nat} {cs : Array Value} {t : TypeId} {fr : Nat × Nat} (h : IsS111 w0 W g f0 f1 f2) (hb2 : W.heap[a]? = some (.cells cs t fr)) (ht : t ≠ 111) : g ≠ a := by
  obtain ⟨A0, c0, hb, hg, hr0⟩ := h
  rintro rfl
  rw [hb] at hb2
  injection hb2 with hb2
  injection hb2 with _ ht2
  exact ht ht2.symm
theorem IsS111.far {w0 W : World} {g : Nat} {f0 : List Int} {f1 : Int} {f2 : Int} {p : Addr} (h : IsS111 w0 W g f0 f1 f2) (hne : g ≠ p.block) (u : Value) : IsS111 w0 (W.setCell p u) g f0 f1 f2 := by
  obtain ⟨A0, c0, hb, hg, hr0⟩ := h
  exact ⟨A0, c0, blk_far hb hne u, hg, hr0⟩
theorem cellS111_0 {W : World} {g : Nat} {A0 : Option Addr} {c0 : Nat} {f0 : List Int} {f1 : Int} {f2 : Int} (h : W.heap[g]? = some (.cells #[.slice A0 f0.length c0, .int .i64 f1, .int .u64 f2] 111 (0, 0))) : W.cell? ⟨g, 0, none⟩ = some (.slice A0 f0.length c0) := (blk_cell h 0).trans rfl
theorem cellS111_1 {W : World} {g : Nat} {A0 : Option Addr} {c0 : Nat} {f0 : List Int} {f1 : Int} {f2 : Int} (h : W.heap[g]? = some (.cells #[.slice A0 f0.length c0, .int .i64 f1, .int .u64 f2] 111 (0, 0))) : W.cell? ⟨g, 1, none⟩ = some (.int .i64 f1) := (blk_cell h 1).trans rfl
theorem IsS111.set_1 {w0 W : World} {g : Nat} {f0 : List Int} {f1 : Int} {f2 : Int} (h : IsS111 w0 W g f0 f1 f2) (x : Int) : IsS111 w0 (W.setCell ⟨g, 1, none⟩ (.int .i64 x)) g f0 x f2 := by
  obtain ⟨A0, c0, hb, hg, hr0⟩ := h
  exact ⟨A0, c0, by simpa using blk_set hb 1 (.int .i64 x), hg, hr0⟩
theorem cellS111_2 {W : World} {g : Nat} {A0 : Option Addr} {c0 : Nat} {f0 : List Int} {f1 : Int} {f2 : Int} (h : W.heap[g]? = some (.cells #[.slice A0 f0.length c0, .int .i64 f1, .int .u64 f2] 111 (0, 0))) : W.cell? ⟨g, 2, none⟩ = some (.int .u64 f2) := (blk_cell h 2).trans rfl
theorem IsS111.set_2 {w0 W : World} {g : Nat} {f0 : List Int} {f1 : Int} {f2 : Int} (h : IsS111 w0 W g f0 f1 f2) (x : Int) : IsS111 w0 (W.setCell ⟨g, 2, none⟩ (.int .u64 x)) g f0 f1 x := by
  obtain ⟨A0, c0, hb, hg, hr0⟩ := h
  exact ⟨A0, c0, by simpa using blk_set hb 2 (.int .u64 x), hg, hr0⟩
theorem IsS111.new (w0 W : World) (A0 : Option Addr) (c0 : Nat) (f0 : List Int) (f1 : Int) (f2 : Int) (hB : Below w0.heap.size w0 W) (hr0 : Kd.C (Kd.int .u8) w0 A0 f0.length f0) : IsS111 w0 (W.alloc (.cells #[.slice A0 f0.length c0, .int .i64 f1, .int .u64 f2] 111)) W.heap.size f0 f1 f2 := ⟨A0, c0, by simpa using heap_alloc_new W _, hB.size, hr0⟩
/-! ### spec_l00Src_next: function 109 -/
def spec_l00Src_next.f (s0_0 : List Int) (s0_1 : Int) (s0_2 : Int) : Option (Int × Int × Int) := if s0_1 < (s0_0.length : Int) then (if 0 ≤ s0_1 then (if (wrap64 (s0_1 + 1)) ≤ (s0_0.length : Int) then (some (wrap64 (rd s0_0 s0_1), wrap64 (s0_1 + 1), IntKind.u64.wrap ((IntKind.u64.wrap ((IntKind.u64.wrap (s0_2 * 6364136223846793005)) + (IntKind.u64.wrap (wrap64 (rd s0_0 s0_1))))) + 1442695040888963407))) else (some (wrap64 (Go.bits .and .u64 ((IntKind.u64.wrap ((IntKind.u64.wrap ((IntKind.u64.wrap (s0_2 * 6364136223846793005)) + (IntKind.u64.wrap (wrap64 (rd s0_0 s0_1))))) + 1442695040888963407)) / 1099511627776) 255), wrap64 (s0_1 + 1), IntKind.u64.wrap ((IntKind.u64.wrap ((IntKind.u64.wrap (s0_2 * 6364136223846793005)) + (IntKind.u64.wrap (wrap64 (rd s0_0 s0_1))))) + 1442695040888963407)))) else (none)) else (if (wrap64 (s0_1 + 1)) ≤ (s0_0.length : Int) then (some (0, wrap64 (s0_1 + 1), IntKind.u64.wrap ((IntKind.u64.wrap (IntKind.u64.wrap (s0_2 * 6364136223846793005))) + 1442695040888963407))) else (some (wrap64 (Go.bits .and .u64 ((IntKind.u64.wrap ((IntKind.u64.wrap (IntKind.u64.wrap (s0_2 * 6364136223846793005))) + 1442695040888963407)) / 1099511627776) 255), wrap64 (s0_1 + 1), IntKind.u64.wrap ((IntKind.u64.wrap (IntKind.u64.wrap (s0_2 * 6364136223846793005))) + 1442695040888963407))))
set_option maxHeartbeats 8000000 in
set_option maxRecDepth 100000 in
theorem spec_l00Src_next.calls (g : Nat) (s0_0 : List Int) (s0_1 : Int) (s0_2 : Int) (r1 : Int) (r2 : Int) (r3 : Int) (w0 w : World) (hI : IsS111 w0 w g s0_0 s0_1 s0_2) (hB : Below w0.heap.size w0 w) (h : spec_l00Src_next.f s0_0 s0_1 s0_2 = some (r1, r2, r3)) :
    Calls Try.prog 109 #[.pointer (some ⟨g, 0, none⟩)] w fun e w' => e = .returned (.int .i64 r1) ∧ IsS111 w0 w' g s0_0 r2 r3 ∧ Below w0.heap.size w0 w' ∧ KeepBut w w' g none := by
  have HI0 := Aside0.mk hI
  have HK := Aside0.mk (KeepBut.refl w g none)
  have HL := Aside0.mk hB.size
  clear hI
  have HW0 := Aside0.mk hB.size
  have HB := Aside0.mk hB
  clear hB
  have H : (if s0_1 < (s0_0.length : Int) then (if 0 ≤ s0_1 then (if (wrap64 (s0_1 + 1)) ≤ (s0_0.length : Int) then (some (wrap64 (rd s0_0 s0_1), wrap64 (s0_1 + 1), IntKind.u64.wrap ((IntKind.u64.wrap ((IntKind.u64.wrap (s0_2 * 6364136223846793005)) + (IntKind.u64.wrap (wrap64 (rd s0_0 s0_1))))) + 1442695040888963407))) else (some (wrap64 (Go.bits .and .u64 ((IntKind.u64.wrap ((IntKind.u64.wrap ((IntKind.u64.wrap (s0_2 * 6364136223846793005)) + (IntKind.u64.wrap (wrap64 (rd s0_0 s0_1))))) + 1442695040888963407)) / 1099511627776) 255), wrap64 (s0_1 + 1), IntKind.u64.wrap ((IntKind.u64.wrap ((IntKind.u64.wrap (s0_2 * 6364136223846793005)) + (IntKind.u64.wrap (wrap64 (rd s0_0 s0_1))))) + 1442695040888963407)))) else (none)) else (if (wrap64 (s0_1 + 1)) ≤ (s0_0.length : Int) then (some (0, wrap64 (s0_1 + 1), IntKind.u64.wrap ((IntKind.u64.wrap (IntKind.u64.wrap (s0_2 * 6364136223846793005))) + 1442695040888963407))) else (some (wrap64 (Go.bits .and .u64 ((IntKind.u64.wrap ((IntKind.u64.wrap (IntKind.u64.wrap (s0_2 * 6364136223846793005))) + 1442695040888963407)) / 1099511627776) 255), wrap64 (s0_1 + 1), IntKind.u64.wrap ((IntKind.u64.wrap (IntKind.u64.wrap (s0_2 * 6364136223846793005))) + 1442695040888963407))))) = some (r1, r2, r3) := h
  clear h
  by_cases c2 : s0_1 < (s0_0.length : Int)
  · rw [if_pos c2] at H
    have c2b0 : decide (s0_1 < (s0_0.length : Int)) = true := decide_eq_true c2
    clear c2
    by_cases c3 : 0 ≤ s0_1
    · rw [if_pos c3] at H
      have c3b0 : decide (0 ≤ s0_1) = true := decide_eq_true c3
      clear c3
      by_cases c4 : (wrap64 (s0_1 + 1)) ≤ (s0_0.length : Int)
      · rw [if_pos c4] at H
        have c4b0 : decide ((wrap64 (s0_1 + 1)) ≤ (s0_0.length : Int)) = true := decide_eq_true c4
        clear c4
        simp only [Option.some.injEq, Prod.mk.injEq] at H
        obtain ⟨rfl, rfl, rfl⟩ := H
        obtain ⟨ASz5_0, cSz5_0, HGz5, hgz5, HSz5_0⟩ := HI0.out
        have hcz5_0 := cellS111_0 HGz5
        have hcz5_1 := cellS111_1 HGz5
        have hcz5_2 := cellS111_2 HGz5
        have hfz5_1 := blk_frozen HGz5 1
        have hfz5_2 := blk_frozen HGz5 2
        clear HGz5 hgz5
        have p101 : 0 ≤ (s0_1 : Int) := of_decide_eq_true (by first | (with_reducible assumption) | assumption)
        have q101 : s0_1 < (s0_0.length : Int) := of_decide_eq_true (by first | (with_reducible assumption) | assumption)
        obtain ⟨ad101, e101, hx101_0⟩ := Kd.at_int HSz5_0 s0_1 p101 q101
        cases e101
        replace hx101_0 := pw_cell_below HB.out hx101_0
        replace p101 := eq_true p101
        replace q101 := eq_true q101
        go_enter Try.func109, Try.ntmps109
        go_wp2
        repeat (go_quiet (fail); try go_wp2)
        go_ret
        exact ⟨by first | rfl | (simp [errW_none, errW_some] <;> rfl) | (simp [*, errW_none, errW_some] <;> rfl), by repeat (first | (with_reducible first | exact HI0.out | apply IsS111.alloc | apply IsS111.drewN | apply IsS111.drew | apply IsS111.set_1 | apply IsS111.set_2) | exact HI0.out), by repeat (first | (with_reducible first | exact HB.out | apply below_alloc | apply pw_below_drewN | apply below_drew1 | refine below_set ?_ (IsS111.ge HI0.out)) | exact HB.out), by repeat (first | (with_reducible first | exact HK.out | apply KeepBut.set_ | apply keep_drewN | apply keep_drew | apply keep_alloc) | exact HK.out)⟩
      · rw [if_neg c4] at H
        have c4b0 : decide ((wrap64 (s0_1 + 1)) ≤ (s0_0.length : Int)) = false := decide_eq_false c4
        clear c4
        simp only [Option.some.injEq, Prod.mk.injEq] at H
        obtain ⟨rfl, rfl, rfl⟩ := H
        obtain ⟨ASz6_0, cSz6_0, HGz6, hgz6, HSz6_0⟩ := HI0.out
        have hcz6_0 := cellS111_0 HGz6
        have hcz6_1 := cellS111_1 HGz6
        have hcz6_2 := cellS111_2 HGz6
        have hfz6_1 := blk_frozen HGz6 1
        have hfz6_2 := blk_frozen HGz6 2
        clear HGz6 hgz6
        have p101 : 0 ≤ (s0_1 : Int) := of_decide_eq_true (by first | (with_reducible assumption) | assumption)
        have q101 : s0_1 < (s0_0.length : Int) := of_decide_eq_true (by first | (with_reducible assumption) | assumption)
        obtain ⟨ad101, e101, hx101_0⟩ := Kd.at_int HSz6_0 s0_1 p101 q101
        cases e101
        replace hx101_0 := pw_cell_below HB.out hx101_0
        replace p101 := eq_true p101
        replace q101 := eq_true q101
        go_enter Try.func109, Try.ntmps109
        go_wp2
        repeat (go_quiet (fail); try go_wp2)
        go_ret
        exact ⟨by first | rfl | (simp [errW_none, errW_some] <;> rfl) | (simp [*, errW_none, errW_some] <;> rfl), by repeat (first | (with_reducible first | exact HI0.out | apply IsS111.alloc | apply IsS111.drewN | apply IsS111.drew | apply IsS111.set_1 | apply IsS111.set_2) | exact HI0.out), by repeat (first | (with_reducible first | exact HB.out | apply below_alloc | apply pw_below_drewN | apply below_drew1 | refine below_set ?_ (IsS111.ge HI0.out)) | exact HB.out), by repeat (first | (with_reducible first | exact HK.out | apply KeepBut.set_ | apply keep_drewN | apply keep_drew | apply keep_alloc) | exact HK.out)⟩
    · rw [if_neg c3] at H
      exact absurd H (by simp)
  · rw [if_neg c2] at H
    have c2b0 : decide (s0_1 < (s0_0.length : Int)) = false := decide_eq_false c2
    clear c2
    by_cases c7 : (wrap64 (s0_1 + 1)) ≤ (s0_0.length : Int)
    · rw [if_pos c7] at H
      have c7b0 : decide ((wrap64 (s0_1 + 1)) ≤ (s0_0.length : Int)) = true := decide_eq_true c7
      clear c7
      simp only [Option.some.injEq, Prod.mk.injEq] at H
      obtain ⟨rfl, rfl, rfl⟩ := H
      obtain ⟨ASz8_0, cSz8_0, HGz8, hgz8, HSz8_0⟩ := HI0.out
      have hcz8_0 := cellS111_0 HGz8
      have hcz8_1 := cellS111_1 HGz8
      have hcz8_2 := cellS111_2 HGz8
      have hfz8_1 := blk_frozen HGz8 1
      have hfz8_2 := blk_frozen HGz8 2
      clear HGz8 hgz8
      go_enter Try.func109, Try.ntmps109
      go_wp2
      repeat (go_quiet (fail); try go_wp2)
      go_ret
      exact ⟨by first | rfl | (simp [errW_none, errW_some] <;> rfl) | (simp [*, errW_none, errW_some] <;> rfl), by repeat (first | (with_reducible first | exact HI0.out | apply IsS111.alloc | apply IsS111.drewN | apply IsS111.drew | apply IsS111.set_1 | apply IsS111.set_2) | exact HI0.out), by repeat (first | (with_reducible first | exact HB.out | apply below_alloc | apply pw_below_drewN | apply below_drew1 | refine below_set ?_ (IsS111.ge HI0.out)) | exact HB.out), by repeat (first | (with_reducible first | exact HK.out | apply KeepBut.set_ | apply keep_drewN | apply keep_drew | apply keep_alloc) | exact HK.out)⟩
    · rw [if_neg c7] at H
      have c7b0 : decide ((wrap64 (s0_1 + 1)) ≤ (s0_0.length : Int)) = false := decide_eq_false c7
      clear c7
      simp only [Option.some.injEq, Prod.mk.injEq] at H
      obtain ⟨rfl, rfl, rfl⟩ := H
      obtain ⟨ASz9_0, cSz9_0, HGz9, hgz9, HSz9_0⟩ := HI0.out
      have hcz9_0 := cellS111_0 HGz9
      have hcz9_1 := cellS111_1 HGz9
      have hcz9_2 := cellS111_2 HGz9
      have hfz9_1 := blk_frozen HGz9 1
      have hfz9_2 := blk_frozen HGz9 2
      clear HGz9 hgz9
      go_enter Try.func109, Try.ntmps109
      go_wp2
      repeat (go_quiet (fail); try go_wp2)
      go_ret
      exact ⟨by first | rfl | (simp [errW_none, errW_some] <;> rfl) | (simp [*, errW_none, errW_some] <;> rfl), by repeat (first | (with_reducible first | exact HI0.out | apply IsS111.alloc | apply IsS111.drewN | apply IsS111.drew | apply IsS111.set_1 | apply IsS111.set_2) | exact HI0.out), by repeat (first | (with_reducible first | exact HB.out | apply below_alloc | apply pw_below_drewN | apply below_drew1 | refine below_set ?_ (IsS111.ge HI0.out)) | exact HB.out), by repeat (first | (with_reducible first | exact HK.out | apply KeepBut.set_ | apply keep_drewN | apply keep_drew | apply keep_alloc) | exact HK.out)⟩
end Go.Proofs.Ytmheflciiodhdaa.P
-- Written by wip/tools/mkprint.py of this repo, over the kit's print, out of the translation; Lean checks it.
namespace Go.Proofs.Ytmheflciiodhdaa.P
open Go.RowKit Go.Proofs.YtmheflciiodhdaaW.PrintWords Go.Proofs.YtmheflciiodhdaaW.PrintLast Go.Proofs.YtmheflciiodhdaaW.PrintMore
attribute [local go_sem] max2_int min2_int max_two min_two max_three min_three max_four min_four   -- for this text's walks alone
set_option linter.unusedVariables false
set_option linter.unusedSimpArgs false
/-! ### spec_l00From: function 61 -/
def spec_l00From.f (l0 : List Int) : Option (List Int × Int × Int) := some (l0, 0, 0)
set_option maxHeartbeats 8000000 in
set_option maxRecDepth 100000 in
theorem spec_l00From.calls (A0 : Option Addr) (c0 : Nat) (l0 : List Int) (r1 : List Int) (r2 : Int) (r3 : Int) (w0 w : World) (hB : Below w0.heap.size w0 w) (hr0 : Kd.C (Kd.int .u8) w0 A0 l0.length l0) (hc0 : l0.length ≤ c0) (h : spec_l00From.f l0 = some (r1, r2, r3)) :
    Calls Try.prog 61 #[.slice A0 l0.length c0] w fun e w' => ∃ g_ : Nat, e = .returned (.pointer (some ⟨g_, 0, none⟩)) ∧ IsS111 w0 w' g_ r1 r2 r3 ∧ Below w0.heap.size w0 w' ∧ Below w.heap.size w w' := by
  have hu111 := Try.underlying111
  have HR0 := Aside0.mk hr0
  have HC0 := Aside0.mk hc0
  clear hr0 hc0
  have HBW := Aside0.mk (Below.refl w.heap.size w)
  have HW0 := Aside0.mk hB.size
  have HB := Aside0.mk hB
  clear hB
  have H : (some (l0, 0, 0)) = some (r1, r2, r3) := h
  clear h
  simp only [Option.some.injEq, Prod.mk.injEq] at H
  obtain ⟨rfl, rfl, rfl⟩ := H
  go_enter Try.func61, Try.ntmps61
  go_wp2_with (first | ((with_reducible refine gate_dst (N := 5) rfl ?_); refine box_event ?hg (N := 5) ?hd (cs := #[.slice A0 l0.length c0, .int .i64 0, .int .u64 0]) (t := 111) ?hr ?_; (case hd => rfl); (case hg => rfl); (case hr => first | (go_simp; done) | (go_simp; rfl)); intro gb129 hg w2 hbox hb; have n0_ := Aside0.mk (below_step HBW.out hb); have n1_ := Aside0.mk (below_step (by repeat (first | (with_reducible first | exact HB.out | apply below_alloc | apply pw_below_drewN | apply below_drew1) | exact HB.out)) hb); have n2_ := Aside0.mk (hbox); have n3_ := Aside0.mk ((by rw [hg]; exact (below_size (by repeat (first | (with_reducible first | exact HBW.out | apply below_alloc | apply pw_below_drewN | apply below_drew1) | exact HBW.out))) : w.heap.size ≤ gb129)); have n4_ := Aside0.mk ((Nat.le_trans HW0.out (by rw [hg]; exact (below_size (by repeat (first | (with_reducible first | exact HBW.out | apply below_alloc | apply pw_below_drewN | apply below_drew1) | exact HBW.out))) : w.heap.size ≤ gb129) : w0.heap.size ≤ gb129)); clear HBW; clear HB; have HBW := n0_; have HB := n1_; have BK129 := n2_; have GW129 := n3_; have GE129 := n4_; clear n0_ n1_ n2_ n3_ n4_; clear hb hbox hg))
  go_ret
  exact ⟨_, rfl, (show IsS111 w0 _ gb129 l0 0 0 from ⟨_, _, by (with_reducible repeat (first | refine blk_drewN ?_ _ | refine blk_drew ?_ | refine blk_alloc ?_ _)); exact BK129.out, GE129.out, HR0.out⟩), by repeat (first | (with_reducible first | exact HB.out | apply below_alloc | apply pw_below_drewN | apply below_drew1 | refine below_set ?_ GE129.out) | exact HB.out), by repeat (first | (with_reducible first | exact HBW.out | apply below_alloc | apply pw_below_drewN | apply below_drew1 | refine below_set ?_ GW129.out) | exact HBW.out)⟩
end Go.Proofs.Ytmheflciiodhdaa.P
-- Written by wip/tools/mkprint.py of this repo, over the kit's print, out of the translation; Lean checks it.
namespace Go.Proofs.Ytmheflciiodhdaa.P
open Go.RowKit Go.Proofs.YtmheflciiodhdaaW.PrintWords Go.Proofs.YtmheflciiodhdaaW.PrintLast Go.Proofs.YtmheflciiodhdaaW.PrintMore
attribute [local go_sem] max2_int min2_int max_two min_two max_three min_three max_four min_four   -- for this text's walks alone
set_option linter.unusedVariables false
set_option linter.unusedSimpArgs false
/-! ### spec_l00Src_pick: function 62 -/
def spec_l00Src_pick.f (s0_0 : List Int) (s0_1 : Int) (s0_2 : Int) (a1 : Int) : Option (Int × Int × Int) := if a1 ≤ 1 then (some (0, s0_1, s0_2)) else ((spec_l00Src_next.f s0_0 s0_1 s0_2).bind fun bt102 => (if a1 > 200 then ((spec_l00Src_next.f s0_0 bt102.2.1 bt102.2.2).bind fun bt105 => (if a1 = 0 then (none) else (some (Int.tmod (wrap64 ((wrap64 (bt102.1 * 256)) + bt105.1)) a1, bt105.2.1, bt105.2.2)))) else (if a1 = 0 then (none) else (some (Int.tmod bt102.1 a1, bt102.2.1, bt102.2.2)))))
set_option maxHeartbeats 8000000 in
set_option maxRecDepth 100000 in
theorem spec_l00Src_pick.calls (g : Nat) (s0_0 : List Int) (s0_1 : Int) (s0_2 : Int) (a1 : Int) (r1 : Int) (r2 : Int) (r3 : Int) (w0 w : World) (hI : IsS111 w0 w g s0_0 s0_1 s0_2) (hB : Below w0.heap.size w0 w) (h : spec_l00Src_pick.f s0_0 s0_1 s0_2 a1 = some (r1, r2, r3)) :
    Calls Try.prog 62 #[.pointer (some ⟨g, 0, none⟩), .int .i64 a1] w fun e w' => e = .returned (.int .i64 r1) ∧ IsS111 w0 w' g s0_0 r2 r3 ∧ Below w0.heap.size w0 w' ∧ KeepBut w w' g none := by
  have HI0 := Aside0.mk hI
  have HK := Aside0.mk (KeepBut.refl w g none)
  have HL := Aside0.mk hB.size
  clear hI
  have HW0 := Aside0.mk hB.size
  have HB := Aside0.mk hB
  clear hB
  have H : (if a1 ≤ 1 then (some (0, s0_1, s0_2)) else ((spec_l00Src_next.f s0_0 s0_1 s0_2).bind fun bt102 => (if a1 > 200 then ((spec_l00Src_next.f s0_0 bt102.2.1 bt102.2.2).bind fun bt105 => (if a1 = 0 then (none) else (some (Int.tmod (wrap64 ((wrap64 (bt102.1 * 256)) + bt105.1)) a1, bt105.2.1, bt105.2.2)))) else (if a1 = 0 then (none) else (some (Int.tmod bt102.1 a1, bt102.2.1, bt102.2.2)))))) = some (r1, r2, r3) := h
  clear h
  by_cases c3 : a1 ≤ 1
  · rw [if_pos c3] at H
    have c3b0 : decide (a1 ≤ 1) = true := decide_eq_true c3
    clear c3
    simp only [Option.some.injEq, Prod.mk.injEq] at H
    obtain ⟨rfl, rfl, rfl⟩ := H
    go_enter Try.func62, Try.ntmps62
    go_wp2
    go_ret
    exact ⟨by first | rfl | (simp [errW_none, errW_some] <;> rfl) | (simp [*, errW_none, errW_some] <;> rfl), by repeat (first | (with_reducible first | exact HI0.out | apply IsS111.alloc | apply IsS111.drewN | apply IsS111.drew | apply IsS111.set_1 | apply IsS111.set_2) | exact HI0.out), by repeat (first | (with_reducible first | exact HB.out | apply below_alloc | apply pw_below_drewN | apply below_drew1 | refine below_set ?_ (IsS111.ge HI0.out)) | exact HB.out), by repeat (first | (with_reducible first | exact HK.out | apply KeepBut.set_ | apply keep_drewN | apply keep_drew | apply keep_alloc) | exact HK.out)⟩
  · rw [if_neg c3] at H
    have c3b0 : decide (a1 ≤ 1) = false := decide_eq_false c3
    clear c3
    replace H := Option.bind_eq_some_iff.mp H
    obtain ⟨⟨t102, t103, t104⟩, A40, H⟩ := H
    replace H : (if a1 > 200 then ((spec_l00Src_next.f s0_0 t103 t104).bind fun bt105 => (if a1 = 0 then (none) else (some (Int.tmod (wrap64 ((wrap64 (t102 * 256)) + bt105.1)) a1, bt105.2.1, bt105.2.2)))) else (if a1 = 0 then (none) else (some (Int.tmod t102 a1, t103, t104)))) = some (r1, r2, r3) := H
    have A4 := Aside0.mk A40
    clear A40
    by_cases c5 : a1 > 200
    · rw [if_pos c5] at H
      have c5b0 : decide (200 < a1) = true := decide_eq_true c5
      clear c5
      replace H := Option.bind_eq_some_iff.mp H
      obtain ⟨⟨t105, t106, t107⟩, A60, H⟩ := H
      replace H : (if a1 = 0 then (none) else (some (Int.tmod (wrap64 ((wrap64 (t102 * 256)) + t105)) a1, t106, t107))) = some (r1, r2, r3) := H
      have A6 := Aside0.mk A60
      clear A60
      by_cases c7 : a1 = 0
      · rw [if_pos c7] at H
        exact absurd H (by simp)
      · rw [if_neg c7] at H
        have c7b0 : (a1 == 0) = false := beq_eq_false_iff_ne.mpr c7
        have c7b1 : (a1 != 0) = true := bne_iff_ne.mpr c7
        simp only [Option.some.injEq, Prod.mk.injEq] at H
        obtain ⟨rfl, rfl, rfl⟩ := H
        go_enter Try.func62, Try.ntmps62
        go_wp2_with (first | ((with_reducible refine gate_callee (f := 109) rfl ?_); refine goesL_ (some 9) rfl rfl Try.func109 (by kernel_rfl) rfl #[.pointer (some ⟨g, 0, none⟩)] rfl (by (try simp only [List.map_toArray, List.map_cons, List.map_nil]); first | done | rfl | (simp only [List.length_drop, List.length_take]; rfl)) ?_; (with_reducible refine (spec_l00Src_next.calls g s0_0 s0_1 s0_2 t102 t103 t104 w0 _ ?side1 ?side2 A4.out).mono ?_); (case side1 => repeat (first | (with_reducible first | exact HI0.out | apply IsS111.alloc | apply IsS111.drewN | apply IsS111.drew | apply IsS111.set_1 | apply IsS111.set_2) | exact HI0.out)); (case side2 => repeat (first | (with_reducible first | exact HB.out | apply below_alloc | apply pw_below_drewN | apply below_drew1 | refine below_set ?_ (IsS111.ge HI0.out)) | exact HB.out)); rintro e w8 ⟨rfl, hi, hb, hk⟩; refine ⟨_, rfl, ?_⟩; have n0_ := Aside0.mk (KeepBut.trans (by repeat (first | (with_reducible first | exact HK.out | apply KeepBut.set_ | apply keep_drewN | apply keep_drew | apply keep_alloc) | exact HK.out)) hk (.inl rfl)); have n1_ := Aside0.mk (hb); have n2_ := Aside0.mk (hi); clear HK; clear HB; clear HI0; have HK := n0_; have HB := n1_; have HI0 := n2_; clear n0_ n1_ n2_; (try clear hb); (try clear hb2); (try clear hk); (try clear hi)) | ((with_reducible refine gate_callee (f := 109) rfl ?_); refine goesL_ (some 15) rfl rfl Try.func109 (by kernel_rfl) rfl #[.pointer (some ⟨g, 0, none⟩)] rfl (by (try simp only [List.map_toArray, List.map_cons, List.map_nil]); first | done | rfl | (simp only [List.length_drop, List.length_take]; rfl)) ?_; (with_reducible refine (spec_l00Src_next.calls g s0_0 t103 t104 t105 t106 t107 w0 _ ?side1 ?side2 A6.out).mono ?_); (case side1 => repeat (first | (with_reducible first | exact HI0.out | apply IsS111.alloc | apply IsS111.drewN | apply IsS111.drew | apply IsS111.set_1 | apply IsS111.set_2) | exact HI0.out)); (case side2 => repeat (first | (with_reducible first | exact HB.out | apply below_alloc | apply pw_below_drewN | apply below_drew1 | refine below_set ?_ (IsS111.ge HI0.out)) | exact HB.out)); rintro e w9 ⟨rfl, hi, hb, hk⟩; refine ⟨_, rfl, ?_⟩; have n0_ := Aside0.mk (KeepBut.trans (by repeat (first | (with_reducible first | exact HK.out | apply KeepBut.set_ | apply keep_drewN | apply keep_drew | apply keep_alloc) | exact HK.out)) hk (.inl rfl)); have n1_ := Aside0.mk (hb); have n2_ := Aside0.mk (hi); clear HK; clear HB; clear HI0; have HK := n0_; have HB := n1_; have HI0 := n2_; clear n0_ n1_ n2_; (try clear hb); (try clear hb2); (try clear hk); (try clear hi)))
        go_ret
        exact ⟨by first | rfl | (simp [errW_none, errW_some] <;> rfl) | (simp [*, errW_none, errW_some] <;> rfl), by repeat (first | (with_reducible first | exact HI0.out | apply IsS111.alloc | apply IsS111.drewN | apply IsS111.drew | apply IsS111.set_1 | apply IsS111.set_2) | exact HI0.out), by repeat (first | (with_reducible first | exact HB.out | apply below_alloc | apply pw_below_drewN | apply below_drew1 | refine below_set ?_ (IsS111.ge HI0.out)) | exact HB.out), by repeat (first | (with_reducible first | exact HK.out | apply KeepBut.set_ | apply keep_drewN | apply keep_drew | apply keep_alloc) | exact HK.out)⟩
    · rw [if_neg c5] at H
      have c5b0 : decide (200 < a1) = false := decide_eq_false c5
      clear c5
      by_cases c10 : a1 = 0
      · rw [if_pos c10] at H
        exact absurd H (by simp)
      · rw [if_neg c10] at H
        have c10b0 : (a1 == 0) = false := beq_eq_false_iff_ne.mpr c10
        have c10b1 : (a1 != 0) = true := bne_iff_ne.mpr c10
        simp only [Option.some.injEq, Prod.mk.injEq] at H
        obtain ⟨rfl, rfl, rfl⟩ := H
        go_enter Try.func62, Try.ntmps62
        go_wp2_with (first | ((with_reducible refine gate_callee (f := 109) rfl ?_); refine goesL_ (some 9) rfl rfl Try.func109 (by kernel_rfl) rfl #[.pointer (some ⟨g, 0, none⟩)] rfl (by (try simp only [List.map_toArray, List.map_cons, List.map_nil]); first | done | rfl | (simp only [List.length_drop, List.length_take]; rfl)) ?_; (with_reducible refine (spec_l00Src_next.calls g s0_0 s0_1 s0_2 t102 t103 t104 w0 _ ?side1 ?side2 A4.out).mono ?_); (case side1 => repeat (first | (with_reducible first | exact HI0.out | apply IsS111.alloc | apply IsS111.drewN | apply IsS111.drew | apply IsS111.set_1 | apply IsS111.set_2) | exact HI0.out)); (case side2 => repeat (first | (with_reducible first | exact HB.out | apply below_alloc | apply pw_below_drewN | apply below_drew1 | refine below_set ?_ (IsS111.ge HI0.out)) | exact HB.out)); rintro e w11 ⟨rfl, hi, hb, hk⟩; refine ⟨_, rfl, ?_⟩; have n0_ := Aside0.mk (KeepBut.trans (by repeat (first | (with_reducible first | exact HK.out | apply KeepBut.set_ | apply keep_drewN | apply keep_drew | apply keep_alloc) | exact HK.out)) hk (.inl rfl)); have n1_ := Aside0.mk (hb); have n2_ := Aside0.mk (hi); clear HK; clear HB; clear HI0; have HK := n0_; have HB := n1_; have HI0 := n2_; clear n0_ n1_ n2_; (try clear hb); (try clear hb2); (try clear hk); (try clear hi)))
        go_ret
        exact ⟨by first | rfl | (simp [errW_none, errW_some] <;> rfl) | (simp [*, errW_none, errW_some] <;> rfl), by repeat (first | (with_reducible first | exact HI0.out | apply IsS111.alloc | apply IsS111.drewN | apply IsS111.drew | apply IsS111.set_1 | apply IsS111.set_2) | exact HI0.out), by repeat (first | (with_reducible first | exact HB.out | apply below_alloc | apply pw_below_drewN | apply below_drew1 | refine below_set ?_ (IsS111.ge HI0.out)) | exact HB.out), by repeat (first | (with_reducible first | exact HK.out | apply KeepBut.set_ | apply keep_drewN | apply keep_drew | apply keep_alloc) | exact HK.out)⟩
end Go.Proofs.Ytmheflciiodhdaa.P
-- Written by wip/tools/mkprint.py of this repo, over the kit's print, out of the translation; Lean checks it.
namespace Go.Proofs.Ytmheflciiodhdaa.P
open Go.RowKit Go.Proofs.YtmheflciiodhdaaW.PrintWords Go.Proofs.YtmheflciiodhdaaW.PrintLast Go.Proofs.YtmheflciiodhdaaW.PrintMore
attribute [local go_sem] max2_int min2_int max_two min_two max_three min_three max_four min_four   -- for this text's walks alone
set_option linter.unusedVariables false
set_option linter.unusedSimpArgs false
/-! ### spec_l00Src_one: function 108 -/
def spec_l00Src_one.f (s0_0 : List Int) (s0_1 : Int) (s0_2 : Int) (a1 : Int) : Option (Bool × Int × Int) := (spec_l00Src_pick.f s0_0 s0_1 s0_2 a1).bind fun bt108 => (some ((bt108.1 == 0), bt108.2.1, bt108.2.2))
set_option maxHeartbeats 8000000 in
set_option maxRecDepth 100000 in
theorem spec_l00Src_one.calls (g : Nat) (s0_0 : List Int) (s0_1 : Int) (s0_2 : Int) (a1 : Int) (r1 : Bool) (r2 : Int) (r3 : Int) (w0 w : World) (hI : IsS111 w0 w g s0_0 s0_1 s0_2) (hB : Below w0.heap.size w0 w) (h : spec_l00Src_one.f s0_0 s0_1 s0_2 a1 = some (r1, r2, r3)) :
    Calls Try.prog 108 #[.pointer (some ⟨g, 0, none⟩), .int .i64 a1] w fun e w' => e = .returned (.bool r1) ∧ IsS111 w0 w' g s0_0 r2 r3 ∧ Below w0.heap.size w0 w' ∧ KeepBut w w' g none := by
  have HI0 := Aside0.mk hI
  have HK := Aside0.mk (KeepBut.refl w g none)
  have HL := Aside0.mk hB.size
  clear hI
  have HW0 := Aside0.mk hB.size
  have HB := Aside0.mk hB
  clear hB
  have H : ((spec_l00Src_pick.f s0_0 s0_1 s0_2 a1).bind fun bt108 => (some ((bt108.1 == 0), bt108.2.1, bt108.2.2))) = some (r1, r2, r3) := h
  clear h
  replace H := Option.bind_eq_some_iff.mp H
  obtain ⟨⟨t108, t109, t110⟩, A30, H⟩ := H
  replace H : (some ((t108 == 0), t109, t110)) = some (r1, r2, r3) := H
  have A3 := Aside0.mk A30
  clear A30
  simp only [Option.some.injEq, Prod.mk.injEq] at H
  obtain ⟨rfl, rfl, rfl⟩ := H
  go_enter Try.func108, Try.ntmps108
  go_wp2_with (first | ((with_reducible refine gate_callee (f := 62) rfl ?_); refine goesL_ (some 7) rfl rfl Try.func62 (by kernel_rfl) rfl #[.pointer (some ⟨g, 0, none⟩), .int .i64 a1] rfl (by (try simp only [List.map_toArray, List.map_cons, List.map_nil]); first | done | rfl | (simp only [List.length_drop, List.length_take]; rfl)) ?_; (with_reducible refine (spec_l00Src_pick.calls g s0_0 s0_1 s0_2 a1 t108 t109 t110 w0 _ ?side1 ?side2 A3.out).mono ?_); (case side1 => repeat (first | (with_reducible first | exact HI0.out | apply IsS111.alloc | apply IsS111.drewN | apply IsS111.drew | apply IsS111.set_1 | apply IsS111.set_2) | exact HI0.out)); (case side2 => repeat (first | (with_reducible first | exact HB.out | apply below_alloc | apply pw_below_drewN | apply below_drew1 | refine below_set ?_ (IsS111.ge HI0.out)) | exact HB.out)); rintro e w4 ⟨rfl, hi, hb, hk⟩; refine ⟨_, rfl, ?_⟩; have n0_ := Aside0.mk (KeepBut.trans (by repeat (first | (with_reducible first | exact HK.out | apply KeepBut.set_ | apply keep_drewN | apply keep_drew | apply keep_alloc) | exact HK.out)) hk (.inl rfl)); have n1_ := Aside0.mk (hb); have n2_ := Aside0.mk (hi); clear HK; clear HB; clear HI0; have HK := n0_; have HB := n1_; have HI0 := n2_; clear n0_ n1_ n2_; (try clear hb); (try clear hb2); (try clear hk); (try clear hi)))
  go_ret
  exact ⟨by first | rfl | (simp [errW_none, errW_some] <;> rfl) | (simp [*, errW_none, errW_some] <;> rfl), by repeat (first | (with_reducible first | exact HI0.out | apply IsS111.alloc | apply IsS111.drewN | apply IsS111.drew | apply IsS111.set_1 | apply IsS111.set_2) | exact HI0.out), by repeat (first | (with_reducible first | exact HB.out | apply below_alloc | apply pw_below_drewN | apply below_drew1 | refine below_set ?_ (IsS111.ge HI0.out)) | exact HB.out), by repeat (first | (with_reducible first | exact HK.out | apply KeepBut.set_ | apply keep_drewN | apply keep_drew | apply keep_alloc) | exact HK.out)⟩
end Go.Proofs.Ytmheflciiodhdaa.P
-- Written by wip/tools/mkprint.py of this repo, over the kit's print, out of the translation; Lean checks it.
namespace Go.Proofs.Ytmheflciiodhdaa.P
open Go.RowKit Go.Proofs.YtmheflciiodhdaaW.PrintWords Go.Proofs.YtmheflciiodhdaaW.PrintLast Go.Proofs.YtmheflciiodhdaaW.PrintMore
attribute [local go_sem] max2_int min2_int max_two min_two max_three min_three max_four min_four   -- for this text's walks alone
set_option linter.unusedVariables false
set_option linter.unusedSimpArgs false
/-! ### spec_l05Drawn: function 60 -/
def spec_l05Drawn.l0 : Nat → List Int → Bool → Int → List Int → Int → Int → Option (List Int × Int × Int)
  | 0, _, _, _, _, _, _ => none
  | k + 1, x3, x4, x5, x1000, x1001, x1002 => if x5 > 0 then ((spec_l00Src_pick.f x1000 x1001 x1002 8).bind fun bt120 => (if x4 = true then (if x3.length < 140737488355328 then (spec_l05Drawn.l0 k (x3 ++ [0]) x4 (wrap64 (x5 - 1)) x1000 bt120.2.1 bt120.2.2) else (none)) else (if x3.length < 140737488355328 then (spec_l05Drawn.l0 k (x3 ++ [(bt120.1) % 256]) x4 (wrap64 (x5 - 1)) x1000 bt120.2.1 bt120.2.2) else (none)))) else (some (x3, x1001, x1002))
def spec_l05Drawn.f (k : Nat) (s0_0 : List Int) (s0_1 : Int) (s0_2 : Int) : Option (List Int × Int × Int) := (spec_l00Src_one.f s0_0 s0_1 s0_2 2).bind fun bt114 => ((spec_l00Src_pick.f s0_0 bt114.2.1 bt114.2.2 7).bind fun bt117 => (spec_l05Drawn.l0 k (([] : List Int)) bt114.1 (wrap64 (1 + bt117.1)) s0_0 bt117.2.1 bt117.2.2))
theorem spec_l05Drawn.mono_l : ∀ k, (∀ y0 y1 y2 y3 y4 y5, LeO (spec_l05Drawn.l0 k y0 y1 y2 y3 y4 y5) (spec_l05Drawn.l0 (k + 1) y0 y1 y2 y3 y4 y5))
  | 0 => fun _ _ _ _ _ _ r h => by simp [spec_l05Drawn.l0] at h
  | k + 1 => by
    have ih0 := spec_l05Drawn.mono_l k
    · intro y0 y1 y2 y3 y4 y5
      unfold spec_l05Drawn.l0
      repeat' first
      | (with_reducible exact ih0 _ _ _ _ _ _)
      | (with_reducible exact LeO.refl _)
      | (with_reducible exact LeO.none _)
      | (with_reducible refine LeO.ite ?_ ?_)
      | (with_reducible refine LeO.bind ?_ (fun _ => ?_))
      | exact ih0 _ _ _ _ _ _
      | exact LeO.none _
      | refine LeO.ite ?_ ?_
      | refine LeO.bind ?_ (fun _ => ?_)
theorem spec_l05Drawn.mono : ∀ a0 a1 a2 k, LeO (spec_l05Drawn.f k a0 a1 a2) (spec_l05Drawn.f (k + 1) a0 a1 a2) := by
  intro a0 a1 a2 k
  have ih0 := spec_l05Drawn.mono_l k
  unfold spec_l05Drawn.f
  repeat' first
      | (with_reducible exact ih0 _ _ _ _ _ _)
      | (with_reducible exact LeO.refl _)
      | (with_reducible exact LeO.none _)
      | (with_reducible refine LeO.ite ?_ ?_)
      | (with_reducible refine LeO.bind ?_ (fun _ => ?_))
      | exact ih0 _ _ _ _ _ _
      | exact LeO.none _
      | refine LeO.ite ?_ ?_
      | refine LeO.bind ?_ (fun _ => ?_)
set_option maxHeartbeats 8000000 in
set_option maxRecDepth 100000 in
theorem spec_l05Drawn.calls (k : Nat) (g : Nat) (s0_0 : List Int) (s0_1 : Int) (s0_2 : Int) (r1 : List Int) (r2 : Int) (r3 : Int) (w0 w : World) (hI : IsS111 w0 w g s0_0 s0_1 s0_2) (hB : Below w0.heap.size w0 w) (h : spec_l05Drawn.f k s0_0 s0_1 s0_2 = some (r1, r2, r3)) :
    Calls Try.prog 60 #[.pointer (some ⟨g, 0, none⟩)] w fun e w' => ∃ v0_ : Value, e = .returned (v0_) ∧ Kd.R (Kd.int .u8) 5 w' w.heap.size (fun _ => True) v0_ r1 ∧ IsS111 w0 w' g s0_0 r2 r3 ∧ Below w0.heap.size w0 w' ∧ KeepBut w w' g none := by
  have HI0 := Aside0.mk hI
  have HK := Aside0.mk (KeepBut.refl w g none)
  have HL := Aside0.mk hB.size
  clear hI
  have HW0 := Aside0.mk hB.size
  have HB := Aside0.mk hB
  clear hB
  have H : ((spec_l00Src_one.f s0_0 s0_1 s0_2 2).bind fun bt114 => ((spec_l00Src_pick.f s0_0 bt114.2.1 bt114.2.2 7).bind fun bt117 => (spec_l05Drawn.l0 k (([] : List Int)) bt114.1 (wrap64 (1 + bt117.1)) s0_0 bt117.2.1 bt117.2.2))) = some (r1, r2, r3) := h
  clear h
  obtain ⟨y111, hy111⟩ : ∃ y_ : List Int, y_ = (([] : List Int)) := ⟨_, rfl⟩
  replace H : ((spec_l00Src_one.f s0_0 s0_1 s0_2 2).bind fun bt114 => ((spec_l00Src_pick.f s0_0 bt114.2.1 bt114.2.2 7).bind fun bt117 => (spec_l05Drawn.l0 k y111 bt114.1 (wrap64 (1 + bt117.1)) s0_0 bt117.2.1 bt117.2.2))) = some (r1, r2, r3) := by first | (rw [hy111]; with_reducible exact H) | (have H2_ := (Option.bind_some _ _).symm.trans H; rw [hy111]; with_reducible exact H2_) | (have H2_ := (Option.bind_some _ _).symm.trans H; with_reducible exact H2_) | with_reducible exact H | (rw [hy111]; exact H) | exact H
  have Ny111 := Aside0.mk hy111
  clear hy111
  replace H := Option.bind_eq_some_iff.mp H
  obtain ⟨⟨t114, t115, t116⟩, A20, H⟩ := H
  replace H : ((spec_l00Src_pick.f s0_0 t115 t116 7).bind fun bt117 => (spec_l05Drawn.l0 k y111 t114 (wrap64 (1 + bt117.1)) s0_0 bt117.2.1 bt117.2.2)) = some (r1, r2, r3) := H
  have A2 := Aside0.mk A20
  clear A20
  replace H := Option.bind_eq_some_iff.mp H
  obtain ⟨⟨t117, t118, t119⟩, A30, H⟩ := H
  replace H : (spec_l05Drawn.l0 k y111 t114 (wrap64 (1 + t117)) s0_0 t118 t119) = some (r1, r2, r3) := H
  have A3 := Aside0.mk A30
  clear A30
  have H' := Aside0.mk H
  clear H
  go_enter Try.func60, Try.ntmps60
  go_wp2_with (first | ((with_reducible refine gate_dst (N := 7) rfl ?_); refine Kd.R_lit (Kd.int .u8) _ 5 ?hg (N := 7) ?hd (xs := ([] : List Int)) (inner := []) (ok := fun _ => True) (okp := fun _ => True) ?hr ?hp (fun _ hk => hk) trivial (Below.refl _ _) (Nat.le_refl _) (by simp) ?_; (case hd => rfl); (case hg => rfl); (case hr => first | (go_simp; done) | (go_simp; rfl)); (case hp => exact (Reps.none _ _)); intro v112 w4 ho5 hb hg_ hnew_; clear hg_ hnew_; (first | rw [← Ny111.out] at ho5 | (simp only [Int.reduceToNat] at ho5; rw [← Ny111.out] at ho5)); have n0_ := Aside0.mk (Kd.R_lower ho5 (keep_size (w := w) (g := g) (row := none) (by repeat (first | (with_reducible first | exact HK.out | apply KeepBut.set_ | apply keep_drewN | apply keep_drew | apply keep_alloc) | exact HK.out)))); have n1_ := Aside0.mk (IsS111.below (by repeat (first | (with_reducible first | exact HI0.out | apply IsS111.alloc | apply IsS111.drewN | apply IsS111.drew | apply IsS111.set_1 | apply IsS111.set_2) | exact HI0.out)) hb); have n2_ := Aside0.mk (KeepBut.trans (by repeat (first | (with_reducible first | exact HK.out | apply KeepBut.set_ | apply keep_drewN | apply keep_drew | apply keep_alloc) | exact HK.out)) (KeepBut.of_below hb g none) (.inl rfl)); have n3_ := Aside0.mk (below_step (by repeat (first | (with_reducible first | exact HB.out | apply below_alloc | apply pw_below_drewN | apply below_drew1 | refine below_set ?_ (IsS111.ge HI0.out)) | exact HB.out)) hb); clear HI0; clear HK; clear HB; have HO113 := n0_; have HI0 := n1_; have HK := n2_; have HB := n3_; clear n0_ n1_ n2_ n3_; clear hb ho5) | ((with_reducible refine gate_callee (f := 108) rfl ?_); refine goesL_ (some 9) rfl rfl Try.func108 (by kernel_rfl) rfl #[.pointer (some ⟨g, 0, none⟩), .int .i64 2] rfl (by (try simp only [List.map_toArray, List.map_cons, List.map_nil]); first | done | rfl | (simp only [List.length_drop, List.length_take]; rfl)) ?_; (with_reducible refine (spec_l00Src_one.calls g s0_0 s0_1 s0_2 2 t114 t115 t116 w0 _ ?side1 ?side2 A2.out).mono ?_); (case side1 => repeat (first | (with_reducible first | exact HI0.out | apply IsS111.alloc | apply IsS111.drewN | apply IsS111.drew | apply IsS111.set_1 | apply IsS111.set_2) | exact HI0.out)); (case side2 => repeat (first | (with_reducible first | exact HB.out | apply below_alloc | apply pw_below_drewN | apply below_drew1 | refine below_set ?_ (IsS111.ge HI0.out)) | exact HB.out)); rintro e w6 ⟨rfl, hi, hb, hk⟩; refine ⟨_, rfl, ?_⟩; have n0_ := Aside0.mk (Kd.R_mono (Kd.R_keep (IsS111.apart (show IsS111 w0 _ g s0_0 s0_1 s0_2 from by repeat (first | (with_reducible first | exact HI0.out | apply IsS111.alloc | apply IsS111.drewN | apply IsS111.drew | apply IsS111.set_1 | apply IsS111.set_2) | exact HI0.out)) (by (with_reducible repeat (first | apply Kd.R_alloc | apply Kd.R_drewN | apply Kd.R_drew)); exact HO113.out) (by decide)) hk (fun _ h => h.2)) (fun _ h => h.1)); have n1_ := Aside0.mk (KeepBut.trans (by repeat (first | (with_reducible first | exact HK.out | apply KeepBut.set_ | apply keep_drewN | apply keep_drew | apply keep_alloc) | exact HK.out)) hk (.inl rfl)); have n2_ := Aside0.mk (hb); have n3_ := Aside0.mk (hi); clear HO113; clear HK; clear HB; clear HI0; have HO113 := n0_; have HK := n1_; have HB := n2_; have HI0 := n3_; clear n0_ n1_ n2_ n3_; (try clear hb); (try clear hb2); (try clear hk); (try clear hi)) | ((with_reducible refine gate_callee (f := 62) rfl ?_); refine goesL_ (some 11) rfl rfl Try.func62 (by kernel_rfl) rfl #[.pointer (some ⟨g, 0, none⟩), .int .i64 7] rfl (by (try simp only [List.map_toArray, List.map_cons, List.map_nil]); first | done | rfl | (simp only [List.length_drop, List.length_take]; rfl)) ?_; (with_reducible refine (spec_l00Src_pick.calls g s0_0 t115 t116 7 t117 t118 t119 w0 _ ?side1 ?side2 A3.out).mono ?_); (case side1 => repeat (first | (with_reducible first | exact HI0.out | apply IsS111.alloc | apply IsS111.drewN | apply IsS111.drew | apply IsS111.set_1 | apply IsS111.set_2) | exact HI0.out)); (case side2 => repeat (first | (with_reducible first | exact HB.out | apply below_alloc | apply pw_below_drewN | apply below_drew1 | refine below_set ?_ (IsS111.ge HI0.out)) | exact HB.out)); rintro e w7 ⟨rfl, hi, hb, hk⟩; refine ⟨_, rfl, ?_⟩; have n0_ := Aside0.mk (Kd.R_mono (Kd.R_keep (IsS111.apart (show IsS111 w0 _ g s0_0 t115 t116 from by repeat (first | (with_reducible first | exact HI0.out | apply IsS111.alloc | apply IsS111.drewN | apply IsS111.drew | apply IsS111.set_1 | apply IsS111.set_2) | exact HI0.out)) (by (with_reducible repeat (first | apply Kd.R_alloc | apply Kd.R_drewN | apply Kd.R_drew)); exact HO113.out) (by decide)) hk (fun _ h => h.2)) (fun _ h => h.1)); have n1_ := Aside0.mk (KeepBut.trans (by repeat (first | (with_reducible first | exact HK.out | apply KeepBut.set_ | apply keep_drewN | apply keep_drew | apply keep_alloc) | exact HK.out)) hk (.inl rfl)); have n2_ := Aside0.mk (hb); have n3_ := Aside0.mk (hi); clear HO113; clear HK; clear HB; clear HI0; have HO113 := n0_; have HK := n1_; have HB := n2_; have HI0 := n3_; clear n0_ n1_ n2_ n3_; (try clear hb); (try clear hb2); (try clear hk); (try clear hi)))
  go_loopg [3, 5] k (fun kq v3 v5 w' => ∃ (x3_1 : List Int) (x5_1 : Int) (x1001_1 : Int) (x1002_1 : Int), v5 = .int .i64 x5_1 ∧ Aside0 (spec_l05Drawn.l0 kq x3_1 t114 x5_1 s0_0 x1001_1 x1002_1 = some (r1, r2, r3)) ∧ Aside0 (kq ≤ k) ∧ Aside0 (Kd.R (Kd.int .u8) 5 w' w.heap.size (fun _ => True) v3 x3_1) ∧ Aside0 (IsS111 w0 w' g s0_0 x1001_1 x1002_1) ∧ Aside0 (KeepBut w w' g none) ∧ Aside0 (Below w0.heap.size w0 w'))
  case atStart => exact ⟨(y111), (wrap64 (1 + t117)), (t118), (t119), (by first | rfl | (simp; done) | (simp [*]; done)), H', ⟨Nat.le_refl _⟩, ⟨by (with_reducible repeat (first | apply Kd.R_alloc | apply Kd.R_drewN | apply Kd.R_drew)); exact HO113.out⟩, ⟨by repeat (first | (with_reducible first | exact HI0.out | apply IsS111.alloc | apply IsS111.drewN | apply IsS111.drew | apply IsS111.set_1 | apply IsS111.set_2) | exact HI0.out)⟩, ⟨by repeat (first | (with_reducible first | exact HK.out | apply KeepBut.set_ | apply keep_drewN | apply keep_drew | apply keep_alloc) | exact HK.out)⟩, ⟨by repeat (first | (with_reducible first | exact HB.out | apply below_alloc | apply pw_below_drewN | apply below_drew1 | refine below_set ?_ (IsS111.ge HI0.out)) | exact HB.out)⟩⟩
  case round =>
    clear H'
    try clear c1
    try clear p2
    try clear c6
    try clear p6
    obtain ⟨x3_1, x5_1, x1001_1, x1002_1, rfl, HA, HK1, HO_3, HI0, HK, HB⟩ := hrel
    cases gk with
    | zero => exact absurd HA.out (by simp [spec_l05Drawn.l0])
    | succ k1 =>
      have H := HA.out
      clear HA
      simp only [spec_l05Drawn.l0] at H
      by_cases c8 : x5_1 > 0
      · rw [if_pos c8] at H
        have c8b0 : decide (0 < x5_1) = true := decide_eq_true c8
        clear c8
        replace H := Option.bind_eq_some_iff.mp H
        obtain ⟨⟨t120, t121, t122⟩, A90, H⟩ := H
        replace H : (if t114 = true then (if x3_1.length < 140737488355328 then (spec_l05Drawn.l0 k1 (x3_1 ++ [0]) t114 (wrap64 (x5_1 - 1)) s0_0 t121 t122) else (none)) else (if x3_1.length < 140737488355328 then (spec_l05Drawn.l0 k1 (x3_1 ++ [(t120) % 256]) t114 (wrap64 (x5_1 - 1)) s0_0 t121 t122) else (none))) = some (r1, r2, r3) := H
        have A9 := Aside0.mk A90
        clear A90
        by_cases c10 : t114 = true
        · subst c10
          have H1 : (if x3_1.length < 140737488355328 then (spec_l05Drawn.l0 k1 (x3_1 ++ [0]) true (wrap64 (x5_1 - 1)) s0_0 t121 t122) else (none)) = some (r1, r2, r3) := by rw [if_pos rfl] at H; exact H
          clear H
          have H := H1
          clear H1
          by_cases c11 : x3_1.length < 140737488355328
          · rw [if_pos c11] at H
            have LMc11 := Aside0.mk c11
            clear c11
            obtain ⟨y123, hy123⟩ : ∃ y_ : List Int, y_ = (x3_1 ++ [0]) := ⟨_, rfl⟩
            replace H : (spec_l05Drawn.l0 k1 y123 true (wrap64 (x5_1 - 1)) s0_0 t121 t122) = some (r1, r2, r3) := by first | (rw [hy123]; with_reducible exact H) | (have H2_ := (Option.bind_some _ _).symm.trans H; rw [hy123]; with_reducible exact H2_) | (have H2_ := (Option.bind_some _ _).symm.trans H; with_reducible exact H2_) | with_reducible exact H | (rw [hy123]; exact H) | exact H
            have Ny123 := Aside0.mk hy123
            clear hy123
            have H' := Aside0.mk H
            clear H
            go_wp2_with (first | ((with_reducible refine gate_callee (f := 62) rfl ?_); refine goesL_ (some 18) rfl rfl Try.func62 (by kernel_rfl) rfl #[.pointer (some ⟨g, 0, none⟩), .int .i64 8] rfl (by (try simp only [List.map_toArray, List.map_cons, List.map_nil]); first | done | rfl | (simp only [List.length_drop, List.length_take]; rfl)) ?_; (with_reducible refine (spec_l00Src_pick.calls g s0_0 x1001_1 x1002_1 8 t120 t121 t122 w0 _ ?side1 ?side2 A9.out).mono ?_); (case side1 => repeat (first | (with_reducible first | exact HI0.out | apply IsS111.alloc | apply IsS111.drewN | apply IsS111.drew | apply IsS111.set_1 | apply IsS111.set_2) | exact HI0.out)); (case side2 => repeat (first | (with_reducible first | exact HB.out | apply below_alloc | apply pw_below_drewN | apply below_drew1 | refine below_set ?_ (IsS111.ge HI0.out)) | exact HB.out)); rintro e w12 ⟨rfl, hi, hb, hk⟩; refine ⟨_, rfl, ?_⟩; have n0_ := Aside0.mk (Kd.R_mono (Kd.R_keep (IsS111.apart (show IsS111 w0 _ g s0_0 x1001_1 x1002_1 from by repeat (first | (with_reducible first | exact HI0.out | apply IsS111.alloc | apply IsS111.drewN | apply IsS111.drew | apply IsS111.set_1 | apply IsS111.set_2) | exact HI0.out)) (by (with_reducible repeat (first | apply Kd.R_alloc | apply Kd.R_drewN | apply Kd.R_drew)); exact HO_3.out) (by decide)) hk (fun _ h => h.2)) (fun _ h => h.1)); have n1_ := Aside0.mk (KeepBut.trans (by repeat (first | (with_reducible first | exact HK.out | apply KeepBut.set_ | apply keep_drewN | apply keep_drew | apply keep_alloc) | exact HK.out)) hk (.inl rfl)); have n2_ := Aside0.mk (hb); have n3_ := Aside0.mk (hi); clear HO_3; clear HK; clear HB; clear HI0; have HO_3 := n0_; have HK := n1_; have HB := n2_; have HI0 := n3_; clear n0_ n1_ n2_ n3_; (try clear hb); (try clear hb2); (try clear hk); (try clear hi)) | ((with_reducible refine gate_builtin (b := .append) (xs := #[.tmp 20, .tmp 23]) rfl ?_); at_builtin; refine Kd.R_append (Kd.int .u8) w.heap.size rfl (.tmp 20) (.tmp 23) 24 5 (.int .u8 0) 1 rfl Try.underlying24 info5 rfl (by decide) (by omega) u3 x3_1 0 [.int .u8 0] (fun _ => True) (fun _ => False) rfl rfl ?aP (fun _ hk => hk.elim) ?aF ?aO (Below.refl _ _) ?aS ?aL ?_; (case aP => exact rfl); (case aF => exact (fun _ _ => trivial)); (case aO => exact (by (with_reducible repeat (first | apply Kd.R_alloc | apply Kd.R_drewN | apply Kd.R_drew)); exact HO_3.out)); (case aS => exact (keep_size (w := w) (g := g) (row := none) (by repeat (first | (with_reducible first | exact HK.out | apply KeepBut.set_ | apply keep_drewN | apply keep_drew | apply keep_alloc) | exact HK.out)))); (case aL => have := LMc11.out; omega); intro v124 w13 ho hb hg hat; rw [← Ny123.out] at ho; have n0_ := Aside0.mk (IsS111.grown (by repeat (first | (with_reducible first | exact HI0.out | apply IsS111.alloc | apply IsS111.drewN | apply IsS111.drew | apply IsS111.set_1 | apply IsS111.set_2) | exact HI0.out)) hg (IsS111.own_ne HI0.out HO_3.out (by decide))); have n1_ := Aside0.mk (below_weaken (by repeat (first | (with_reducible first | exact HB.out | apply below_alloc | apply pw_below_drewN | apply below_drew1 | refine below_set ?_ (IsS111.ge HI0.out)) | exact HB.out)) HL.out hb); have n2_ := Aside0.mk (KeepBut.trans (by repeat (first | (with_reducible first | exact HK.out | apply KeepBut.set_ | apply keep_drewN | apply keep_drew | apply keep_alloc) | exact HK.out)) (KeepBut.of_grown hg g) (Kd.R_base2 HO_3.out)); have n3_ := Aside0.mk (ho); clear HI0; clear HB; clear HK; clear HO_3; have HI0 := n0_; have HB := n1_; have HK := n2_; have HO125 := n3_; clear n0_ n1_ n2_ n3_; clear ho hb hg hat))
            go_roundg k1
            case measure => have := HK1.out; omega
            case rel => exact ⟨(y123), (wrap64 (x5_1 - 1)), (t121), (t122), (by first | rfl | (simp; done) | (simp [*]; done)), H', ⟨by have := HK1.out; omega⟩, ⟨by (with_reducible repeat (first | apply Kd.R_alloc | apply Kd.R_drewN | apply Kd.R_drew)); exact HO125.out⟩, ⟨by repeat (first | (with_reducible first | exact HI0.out | apply IsS111.alloc | apply IsS111.drewN | apply IsS111.drew | apply IsS111.set_1 | apply IsS111.set_2) | exact HI0.out)⟩, ⟨by repeat (first | (with_reducible first | exact HK.out | apply KeepBut.set_ | apply keep_drewN | apply keep_drew | apply keep_alloc) | exact HK.out)⟩, ⟨by repeat (first | (with_reducible first | exact HB.out | apply below_alloc | apply pw_below_drewN | apply below_drew1 | refine below_set ?_ (IsS111.ge HI0.out)) | exact HB.out)⟩⟩
          · rw [if_neg c11] at H
            exact absurd H (by simp)
        · replace c10 := Bool.eq_false_iff.mpr c10
          subst c10
          have H1 : (if x3_1.length < 140737488355328 then (spec_l05Drawn.l0 k1 (x3_1 ++ [(t120) % 256]) false (wrap64 (x5_1 - 1)) s0_0 t121 t122) else (none)) = some (r1, r2, r3) := by rw [if_neg (show ¬ (false = true) by decide)] at H; exact H
          clear H
          have H := H1
          clear H1
          by_cases c14 : x3_1.length < 140737488355328
          · rw [if_pos c14] at H
            have LMc14 := Aside0.mk c14
            clear c14
            obtain ⟨y126, hy126⟩ : ∃ y_ : List Int, y_ = (x3_1 ++ [(t120) % 256]) := ⟨_, rfl⟩
            replace H : (spec_l05Drawn.l0 k1 y126 false (wrap64 (x5_1 - 1)) s0_0 t121 t122) = some (r1, r2, r3) := by first | (rw [hy126]; with_reducible exact H) | (have H2_ := (Option.bind_some _ _).symm.trans H; rw [hy126]; with_reducible exact H2_) | (have H2_ := (Option.bind_some _ _).symm.trans H; with_reducible exact H2_) | with_reducible exact H | (rw [hy126]; exact H) | exact H
            have Ny126 := Aside0.mk hy126
            clear hy126
            have H' := Aside0.mk H
            clear H
            go_wp2_with (first | ((with_reducible refine gate_callee (f := 62) rfl ?_); refine goesL_ (some 18) rfl rfl Try.func62 (by kernel_rfl) rfl #[.pointer (some ⟨g, 0, none⟩), .int .i64 8] rfl (by (try simp only [List.map_toArray, List.map_cons, List.map_nil]); first | done | rfl | (simp only [List.length_drop, List.length_take]; rfl)) ?_; (with_reducible refine (spec_l00Src_pick.calls g s0_0 x1001_1 x1002_1 8 t120 t121 t122 w0 _ ?side1 ?side2 A9.out).mono ?_); (case side1 => repeat (first | (with_reducible first | exact HI0.out | apply IsS111.alloc | apply IsS111.drewN | apply IsS111.drew | apply IsS111.set_1 | apply IsS111.set_2) | exact HI0.out)); (case side2 => repeat (first | (with_reducible first | exact HB.out | apply below_alloc | apply pw_below_drewN | apply below_drew1 | refine below_set ?_ (IsS111.ge HI0.out)) | exact HB.out)); rintro e w15 ⟨rfl, hi, hb, hk⟩; refine ⟨_, rfl, ?_⟩; have n0_ := Aside0.mk (Kd.R_mono (Kd.R_keep (IsS111.apart (show IsS111 w0 _ g s0_0 x1001_1 x1002_1 from by repeat (first | (with_reducible first | exact HI0.out | apply IsS111.alloc | apply IsS111.drewN | apply IsS111.drew | apply IsS111.set_1 | apply IsS111.set_2) | exact HI0.out)) (by (with_reducible repeat (first | apply Kd.R_alloc | apply Kd.R_drewN | apply Kd.R_drew)); exact HO_3.out) (by decide)) hk (fun _ h => h.2)) (fun _ h => h.1)); have n1_ := Aside0.mk (KeepBut.trans (by repeat (first | (with_reducible first | exact HK.out | apply KeepBut.set_ | apply keep_drewN | apply keep_drew | apply keep_alloc) | exact HK.out)) hk (.inl rfl)); have n2_ := Aside0.mk (hb); have n3_ := Aside0.mk (hi); clear HO_3; clear HK; clear HB; clear HI0; have HO_3 := n0_; have HK := n1_; have HB := n2_; have HI0 := n3_; clear n0_ n1_ n2_ n3_; (try clear hb); (try clear hb2); (try clear hk); (try clear hi)) | ((with_reducible refine gate_builtin (b := .append) (xs := #[.tmp 20, .tmp 23]) rfl ?_); at_builtin; refine Kd.R_append (Kd.int .u8) w.heap.size rfl (.tmp 20) (.tmp 23) 24 5 (.int .u8 0) 1 rfl Try.underlying24 info5 rfl (by decide) (by omega) u3 x3_1 ((t120) % 256) [.int .u8 ((t120) % 256)] (fun _ => True) (fun _ => False) rfl rfl ?aP (fun _ hk => hk.elim) ?aF ?aO (Below.refl _ _) ?aS ?aL ?_; (case aP => exact rfl); (case aF => exact (fun _ _ => trivial)); (case aO => exact (by (with_reducible repeat (first | apply Kd.R_alloc | apply Kd.R_drewN | apply Kd.R_drew)); exact HO_3.out)); (case aS => exact (keep_size (w := w) (g := g) (row := none) (by repeat (first | (with_reducible first | exact HK.out | apply KeepBut.set_ | apply keep_drewN | apply keep_drew | apply keep_alloc) | exact HK.out)))); (case aL => have := LMc14.out; omega); intro v127 w16 ho hb hg hat; rw [← Ny126.out] at ho; have n0_ := Aside0.mk (IsS111.grown (by repeat (first | (with_reducible first | exact HI0.out | apply IsS111.alloc | apply IsS111.drewN | apply IsS111.drew | apply IsS111.set_1 | apply IsS111.set_2) | exact HI0.out)) hg (IsS111.own_ne HI0.out HO_3.out (by decide))); have n1_ := Aside0.mk (below_weaken (by repeat (first | (with_reducible first | exact HB.out | apply below_alloc | apply pw_below_drewN | apply below_drew1 | refine below_set ?_ (IsS111.ge HI0.out)) | exact HB.out)) HL.out hb); have n2_ := Aside0.mk (KeepBut.trans (by repeat (first | (with_reducible first | exact HK.out | apply KeepBut.set_ | apply keep_drewN | apply keep_drew | apply keep_alloc) | exact HK.out)) (KeepBut.of_grown hg g) (Kd.R_base2 HO_3.out)); have n3_ := Aside0.mk (ho); clear HI0; clear HB; clear HK; clear HO_3; have HI0 := n0_; have HB := n1_; have HK := n2_; have HO128 := n3_; clear n0_ n1_ n2_ n3_; clear ho hb hg hat))
            go_roundg k1
            case measure => have := HK1.out; omega
            case rel => exact ⟨(y126), (wrap64 (x5_1 - 1)), (t121), (t122), (by first | rfl | (simp; done) | (simp [*]; done)), H', ⟨by have := HK1.out; omega⟩, ⟨by (with_reducible repeat (first | apply Kd.R_alloc | apply Kd.R_drewN | apply Kd.R_drew)); exact HO128.out⟩, ⟨by repeat (first | (with_reducible first | exact HI0.out | apply IsS111.alloc | apply IsS111.drewN | apply IsS111.drew | apply IsS111.set_1 | apply IsS111.set_2) | exact HI0.out)⟩, ⟨by repeat (first | (with_reducible first | exact HK.out | apply KeepBut.set_ | apply keep_drewN | apply keep_drew | apply keep_alloc) | exact HK.out)⟩, ⟨by repeat (first | (with_reducible first | exact HB.out | apply below_alloc | apply pw_below_drewN | apply below_drew1 | refine below_set ?_ (IsS111.ge HI0.out)) | exact HB.out)⟩⟩
          · rw [if_neg c14] at H
            exact absurd H (by simp)
      · rw [if_neg c8] at H
        have c8b0 : decide (0 < x5_1) = false := decide_eq_false c8
        clear c8
        simp only [Option.some.injEq, Prod.mk.injEq] at H
        obtain ⟨rfl, rfl, rfl⟩ := H
        go_wp2
        go_ret
        exact ⟨_, by first | rfl | (simp [errW_none, errW_some] <;> rfl) | (simp [*, errW_none, errW_some] <;> rfl), by (with_reducible repeat (first | apply Kd.R_alloc | apply Kd.R_drewN | apply Kd.R_drew)); exact HO_3.out, by repeat (first | (with_reducible first | exact HI0.out | apply IsS111.alloc | apply IsS111.drewN | apply IsS111.drew | apply IsS111.set_1 | apply IsS111.set_2) | exact HI0.out), by repeat (first | (with_reducible first | exact HB.out | apply below_alloc | apply pw_below_drewN | apply below_drew1 | refine below_set ?_ (IsS111.ge HI0.out)) | exact HB.out), by repeat (first | (with_reducible first | exact HK.out | apply KeepBut.set_ | apply keep_drewN | apply keep_drew | apply keep_alloc) | exact HK.out)⟩
end Go.Proofs.Ytmheflciiodhdaa.P
-- Written by wip/tools/mkprint.py of this repo, over the kit's print, out of the translation; Lean checks it.
namespace Go.Proofs.Ytmheflciiodhdaa.P
open Go.RowKit Go.Proofs.YtmheflciiodhdaaW.PrintWords Go.Proofs.YtmheflciiodhdaaW.PrintLast Go.Proofs.YtmheflciiodhdaaW.PrintMore
attribute [local go_sem] max2_int min2_int max_two min_two max_three min_three max_four min_four   -- for this text's walks alone
set_option linter.unusedVariables false
set_option linter.unusedSimpArgs false
/-! ### spec_P6Row: function 9 -/
def spec_P6Row.f (k : Nat) (l0 : List Int) : Option (List Int) := (spec_l00From.f l0).bind fun bt130 => ((spec_l05Drawn.f k bt130.1 bt130.2.1 bt130.2.2).bind fun bt134 => (some bt134.1))
theorem spec_P6Row.mono : ∀ a0 k, LeO (spec_P6Row.f k a0) (spec_P6Row.f (k + 1) a0) := by
  intro a0 k
  unfold spec_P6Row.f
  repeat' first
      | (with_reducible exact spec_l05Drawn.mono _ _ _ _)
      | (with_reducible exact LeO.refl _)
      | (with_reducible exact LeO.none _)
      | (with_reducible refine LeO.ite ?_ ?_)
      | (with_reducible refine LeO.bind ?_ (fun _ => ?_))
      | exact spec_l05Drawn.mono _ _ _ _
      | exact LeO.none _
      | refine LeO.ite ?_ ?_
      | refine LeO.bind ?_ (fun _ => ?_)
set_option maxHeartbeats 8000000 in
set_option maxRecDepth 100000 in
theorem spec_P6Row.calls (k : Nat) (A0 : Option Addr) (c0 : Nat) (l0 : List Int) (r : List Int) (w : World) (hr0 : Kd.C (Kd.int .u8) w A0 l0.length l0) (hc0 : l0.length ≤ c0) (h : spec_P6Row.f k l0 = some r) :
    Calls Try.prog 9 #[.slice A0 l0.length c0] w fun e w' => ∃ v0_ : Value, e = .returned (v0_) ∧ Kd.R (Kd.int .u8) 5 w' w.heap.size (fun _ => True) v0_ r ∧ Below w.heap.size w w' := by
  have HR0 := Aside0.mk hr0
  have HC0 := Aside0.mk hc0
  clear hr0 hc0
  have HB := Aside0.mk (Below.refl w.heap.size w)
  have H : ((spec_l00From.f l0).bind fun bt130 => ((spec_l05Drawn.f k bt130.1 bt130.2.1 bt130.2.2).bind fun bt134 => (some bt134.1))) = some r := h
  clear h
  replace H := Option.bind_eq_some_iff.mp H
  obtain ⟨⟨t130, t131, t132⟩, A20, H⟩ := H
  replace H : ((spec_l05Drawn.f k t130 t131 t132).bind fun bt134 => (some bt134.1)) = some r := H
  have A2 := Aside0.mk A20
  clear A20
  replace H := Option.bind_eq_some_iff.mp H
  obtain ⟨⟨t134, t137, t138⟩, A30, H⟩ := H
  replace H : (some t134) = some r := H
  have A3 := Aside0.mk A30
  clear A30
  obtain rfl := Option.some.inj H
  go_enter Try.func9, Try.ntmps9
  go_wp2_with (first | ((with_reducible refine gate_callee (f := 61) rfl ?_); refine goesL_ (some 4) rfl rfl Try.func61 (by kernel_rfl) rfl #[.slice A0 l0.length c0] rfl (by (try simp only [List.map_toArray, List.map_cons, List.map_nil]); first | done | rfl | (simp only [List.length_drop, List.length_take]; rfl)) ?_; (with_reducible refine (spec_l00From.calls _ _ l0 t130 t131 t132 w _ ?side1 ?side2 ?side3 A2.out).mono ?_); (case side1 => repeat (first | (with_reducible first | exact HB.out | apply below_alloc | apply pw_below_drewN | apply below_drew1) | exact HB.out)); (case side2 => exact HR0.out); (case side3 => exact HC0.out); rintro e w4 ⟨g133, rfl, hi, hb, hb2⟩; refine ⟨_, rfl, ?_⟩; have n0_ := Aside0.mk (hb); have n1_ := Aside0.mk (hi); clear HB; have HB := n0_; have HI133 := n1_; clear n0_ n1_; (try clear hb); (try clear hb2); (try clear hk); (try clear hi)) | ((with_reducible refine gate_callee (f := 60) rfl ?_); refine goesL_ (some 5) rfl rfl Try.func60 (by kernel_rfl) rfl #[.pointer (some ⟨g133, 0, none⟩)] rfl (by (try simp only [List.map_toArray, List.map_cons, List.map_nil]); first | done | rfl | (simp only [List.length_drop, List.length_take]; rfl)) ?_; (with_reducible refine (spec_l05Drawn.calls k g133 t130 t131 t132 t134 t137 t138 w _ ?side1 ?side2 A3.out).mono ?_); (case side1 => repeat (first | (with_reducible first | exact HI133.out | apply IsS111.alloc | apply IsS111.drewN | apply IsS111.drew | apply IsS111.set_1 | apply IsS111.set_2) | exact HI133.out)); (case side2 => repeat (first | (with_reducible first | exact HB.out | apply below_alloc | apply pw_below_drewN | apply below_drew1 | refine below_set ?_ (IsS111.ge HI133.out)) | exact HB.out)); rintro e w5 ⟨v135, rfl, ho0, hi, hb, hk⟩; refine ⟨_, rfl, ?_⟩; have n0_ := Aside0.mk (Kd.R_lower ho0 (below_size (by repeat (first | (with_reducible first | exact HB.out | apply below_alloc | apply pw_below_drewN | apply below_drew1 | refine below_set ?_ (IsS111.ge HI133.out)) | exact HB.out)))); have n1_ := Aside0.mk (hb); have n2_ := Aside0.mk (hi); clear HB; clear HI133; have HO136 := n0_; have HB := n1_; have HI133 := n2_; clear n0_ n1_ n2_; (try clear hb); (try clear hb2); (try clear hk); (try clear hi); (try clear ho0)))
  go_ret
  exact ⟨_, by first | rfl | (simp [errW_none, errW_some] <;> rfl) | (simp [*, errW_none, errW_some] <;> rfl), by (with_reducible repeat (first | apply Kd.R_alloc | apply Kd.R_drewN | apply Kd.R_drew)); exact HO136.out, by repeat (first | (with_reducible first | exact HB.out | apply below_alloc | apply pw_below_drewN | apply below_drew1 | refine below_set ?_ (IsS111.ge HI133.out)) | exact HB.out)⟩
end Go.Proofs.Ytmheflciiodhdaa.P
-- Written by wip/tools/mkprint.py of this repo, over the kit's print, out of the translation; Lean checks it.
namespace Go.Proofs.Ytmheflciiodhdaa.P
open Go.RowKit Go.Proofs.YtmheflciiodhdaaW.PrintWords Go.Proofs.YtmheflciiodhdaaW.PrintLast Go.Proofs.YtmheflciiodhdaaW.PrintMore
attribute [local go_sem] max2_int min2_int max_two min_two max_three min_three max_four min_four   -- for this text's walks alone
set_option linter.unusedVariables false
set_option linter.unusedSimpArgs false
/-! ### spec_l00Max: function 96 -/
def spec_l00Max.f (a0 : Int) (a1 : Int) : Option (Int) := if a0 > a1 then (some a0) else (some a1)
set_option maxHeartbeats 8000000 in
set_option maxRecDepth 100000 in
theorem spec_l00Max.calls (a0 : Int) (a1 : Int) (r : Int) (w : World) (h : spec_l00Max.f a0 a1 = some r) :
    Calls Try.prog 96 #[.int .i64 a0, .int .i64 a1] w fun e w' => e = .returned (.int .i64 r) ∧ Drawn0 w w' := by
  have H : (if a0 > a1 then (some a0) else (some a1)) = some r := h
  clear h
  by_cases c3 : a0 > a1
  · rw [if_pos c3] at H
    have c3b0 : decide (a1 < a0) = true := decide_eq_true c3
    clear c3
    obtain rfl := Option.some.inj H
    go_enter Try.func96, Try.ntmps96
    go_wp2
    go_ret
    exact ⟨by first | rfl | (simp; done) | (simp [*]; done), by repeat (first | exact Drawn0.refl _ | apply Drawn0.step)⟩
  · rw [if_neg c3] at H
    have c3b0 : decide (a1 < a0) = false := decide_eq_false c3
    clear c3
    obtain rfl := Option.some.inj H
    go_enter Try.func96, Try.ntmps96
    go_wp2
    go_ret
    exact ⟨by first | rfl | (simp; done) | (simp [*]; done), by repeat (first | exact Drawn0.refl _ | apply Drawn0.step)⟩
end Go.Proofs.Ytmheflciiodhdaa.P
-- Written by wip/tools/mkprint.py of this repo, over the kit's print, out of the translation; Lean checks it.
namespace Go.Proofs.Ytmheflciiodhdaa.P
open Go.RowKit Go.Proofs.YtmheflciiodhdaaW.PrintWords Go.Proofs.YtmheflciiodhdaaW.PrintLast Go.Proofs.YtmheflciiodhdaaW.PrintMore
attribute [local go_sem] max2_int min2_int max_two min_two max_three min_three max_four min_four   -- for this text's walks alone
set_option linter.unusedVariables false
set_option linter.unusedSimpArgs false
/-! ### spec_l05One: function 63 -/
def spec_l05One.f (s0_0 : List Int) (s0_1 : Int) (s0_2 : Int) (a1 : Int) : Option (Int × Int × Int × Int × Int × Int × Int × Int) := (spec_l00Src_pick.f s0_0 s0_1 s0_2 5).bind fun bt140 => ((spec_l00Src_pick.f s0_0 bt140.2.1 bt140.2.2 6).bind fun bt143 => ((spec_l00Max.f 1 a1).bind fun t147 => ((spec_l00Src_pick.f s0_0 bt143.2.1 bt143.2.2 t147).bind fun bt148 => ((spec_l00Src_pick.f s0_0 bt148.2.1 bt148.2.2 5).bind fun bt151 => ((spec_l00Src_pick.f s0_0 bt151.2.1 bt151.2.2 6).bind fun bt154 => ((spec_l00Src_pick.f s0_0 bt154.2.1 bt154.2.2 15).bind fun bt157 => (some (IntKind.i16.wrap (bt140.1), IntKind.i16.wrap (wrap64 (1 + bt143.1)), IntKind.i16.wrap (bt148.1), IntKind.i16.wrap (bt151.1), IntKind.i16.wrap (wrap64 (1 + bt154.1)), IntKind.i8.wrap (wrap64 (bt157.1 - 7)), bt157.2.1, bt157.2.2))))))))
set_option maxHeartbeats 8000000 in
set_option maxRecDepth 100000 in
theorem spec_l05One.calls (g : Nat) (s0_0 : List Int) (s0_1 : Int) (s0_2 : Int) (a1 : Int) (r1 : Int) (r2 : Int) (r3 : Int) (r4 : Int) (r5 : Int) (r6 : Int) (r7 : Int) (r8 : Int) (w0 w : World) (hI : IsS111 w0 w g s0_0 s0_1 s0_2) (hB : Below w0.heap.size w0 w) (h : spec_l05One.f s0_0 s0_1 s0_2 a1 = some (r1, r2, r3, r4, r5, r6, r7, r8)) :
    Calls Try.prog 63 #[.pointer (some ⟨g, 0, none⟩), .int .i64 a1] w fun e w' => e = .returned (.agg #[.int .i16 r1, .int .i16 r2, .int .i16 r3, .int .i16 r4, .int .i16 r5, .int .i8 r6]) ∧ IsS111 w0 w' g s0_0 r7 r8 ∧ Below w0.heap.size w0 w' ∧ KeepBut w w' g none := by
  have hu38 := Try.underlying38
  have HI0 := Aside0.mk hI
  have HK := Aside0.mk (KeepBut.refl w g none)
  have HL := Aside0.mk hB.size
  clear hI
  have HW0 := Aside0.mk hB.size
  have HB := Aside0.mk hB
  clear hB
  have H : ((spec_l00Src_pick.f s0_0 s0_1 s0_2 5).bind fun bt140 => ((spec_l00Src_pick.f s0_0 bt140.2.1 bt140.2.2 6).bind fun bt143 => ((spec_l00Max.f 1 a1).bind fun t147 => ((spec_l00Src_pick.f s0_0 bt143.2.1 bt143.2.2 t147).bind fun bt148 => ((spec_l00Src_pick.f s0_0 bt148.2.1 bt148.2.2 5).bind fun bt151 => ((spec_l00Src_pick.f s0_0 bt151.2.1 bt151.2.2 6).bind fun bt154 => ((spec_l00Src_pick.f s0_0 bt154.2.1 bt154.2.2 15).bind fun bt157 => (some (IntKind.i16.wrap (bt140.1), IntKind.i16.wrap (wrap64 (1 + bt143.1)), IntKind.i16.wrap (bt148.1), IntKind.i16.wrap (bt151.1), IntKind.i16.wrap (wrap64 (1 + bt154.1)), IntKind.i8.wrap (wrap64 (bt157.1 - 7)), bt157.2.1, bt157.2.2))))))))) = some (r1, r2, r3, r4, r5, r6, r7, r8) := h
  clear h
  replace H := Option.bind_eq_some_iff.mp H
  obtain ⟨⟨t140, t141, t142⟩, A30, H⟩ := H
  replace H : ((spec_l00Src_pick.f s0_0 t141 t142 6).bind fun bt143 => ((spec_l00Max.f 1 a1).bind fun t147 => ((spec_l00Src_pick.f s0_0 bt143.2.1 bt143.2.2 t147).bind fun bt148 => ((spec_l00Src_pick.f s0_0 bt148.2.1 bt148.2.2 5).bind fun bt151 => ((spec_l00Src_pick.f s0_0 bt151.2.1 bt151.2.2 6).bind fun bt154 => ((spec_l00Src_pick.f s0_0 bt154.2.1 bt154.2.2 15).bind fun bt157 => (some (IntKind.i16.wrap (t140), IntKind.i16.wrap (wrap64 (1 + bt143.1)), IntKind.i16.wrap (bt148.1), IntKind.i16.wrap (bt151.1), IntKind.i16.wrap (wrap64 (1 + bt154.1)), IntKind.i8.wrap (wrap64 (bt157.1 - 7)), bt157.2.1, bt157.2.2)))))))) = some (r1, r2, r3, r4, r5, r6, r7, r8) := H
  have A3 := Aside0.mk A30
  clear A30
  replace H := Option.bind_eq_some_iff.mp H
  obtain ⟨⟨t143, t144, t145⟩, A40, H⟩ := H
  replace H : ((spec_l00Max.f 1 a1).bind fun t147 => ((spec_l00Src_pick.f s0_0 t144 t145 t147).bind fun bt148 => ((spec_l00Src_pick.f s0_0 bt148.2.1 bt148.2.2 5).bind fun bt151 => ((spec_l00Src_pick.f s0_0 bt151.2.1 bt151.2.2 6).bind fun bt154 => ((spec_l00Src_pick.f s0_0 bt154.2.1 bt154.2.2 15).bind fun bt157 => (some (IntKind.i16.wrap (t140), IntKind.i16.wrap (wrap64 (1 + t143)), IntKind.i16.wrap (bt148.1), IntKind.i16.wrap (bt151.1), IntKind.i16.wrap (wrap64 (1 + bt154.1)), IntKind.i8.wrap (wrap64 (bt157.1 - 7)), bt157.2.1, bt157.2.2))))))) = some (r1, r2, r3, r4, r5, r6, r7, r8) := H
  have A4 := Aside0.mk A40
  clear A40
  replace H := Option.bind_eq_some_iff.mp H
  obtain ⟨t147, A50, H⟩ := H
  replace H : ((spec_l00Src_pick.f s0_0 t144 t145 t147).bind fun bt148 => ((spec_l00Src_pick.f s0_0 bt148.2.1 bt148.2.2 5).bind fun bt151 => ((spec_l00Src_pick.f s0_0 bt151.2.1 bt151.2.2 6).bind fun bt154 => ((spec_l00Src_pick.f s0_0 bt154.2.1 bt154.2.2 15).bind fun bt157 => (some (IntKind.i16.wrap (t140), IntKind.i16.wrap (wrap64 (1 + t143)), IntKind.i16.wrap (bt148.1), IntKind.i16.wrap (bt151.1), IntKind.i16.wrap (wrap64 (1 + bt154.1)), IntKind.i8.wrap (wrap64 (bt157.1 - 7)), bt157.2.1, bt157.2.2)))))) = some (r1, r2, r3, r4, r5, r6, r7, r8) := H
  have A5 := Aside0.mk A50
  clear A50
  replace H := Option.bind_eq_some_iff.mp H
  obtain ⟨⟨t148, t149, t150⟩, A60, H⟩ := H
  replace H : ((spec_l00Src_pick.f s0_0 t149 t150 5).bind fun bt151 => ((spec_l00Src_pick.f s0_0 bt151.2.1 bt151.2.2 6).bind fun bt154 => ((spec_l00Src_pick.f s0_0 bt154.2.1 bt154.2.2 15).bind fun bt157 => (some (IntKind.i16.wrap (t140), IntKind.i16.wrap (wrap64 (1 + t143)), IntKind.i16.wrap (t148), IntKind.i16.wrap (bt151.1), IntKind.i16.wrap (wrap64 (1 + bt154.1)), IntKind.i8.wrap (wrap64 (bt157.1 - 7)), bt157.2.1, bt157.2.2))))) = some (r1, r2, r3, r4, r5, r6, r7, r8) := H
  have A6 := Aside0.mk A60
  clear A60
  replace H := Option.bind_eq_some_iff.mp H
  obtain ⟨⟨t151, t152, t153⟩, A70, H⟩ := H
  replace H : ((spec_l00Src_pick.f s0_0 t152 t153 6).bind fun bt154 => ((spec_l00Src_pick.f s0_0 bt154.2.1 bt154.2.2 15).bind fun bt157 => (some (IntKind.i16.wrap (t140), IntKind.i16.wrap (wrap64 (1 + t143)), IntKind.i16.wrap (t148), IntKind.i16.wrap (t151), IntKind.i16.wrap (wrap64 (1 + bt154.1)), IntKind.i8.wrap (wrap64 (bt157.1 - 7)), bt157.2.1, bt157.2.2)))) = some (r1, r2, r3, r4, r5, r6, r7, r8) := H
  have A7 := Aside0.mk A70
  clear A70
  replace H := Option.bind_eq_some_iff.mp H
  obtain ⟨⟨t154, t155, t156⟩, A80, H⟩ := H
  replace H : ((spec_l00Src_pick.f s0_0 t155 t156 15).bind fun bt157 => (some (IntKind.i16.wrap (t140), IntKind.i16.wrap (wrap64 (1 + t143)), IntKind.i16.wrap (t148), IntKind.i16.wrap (t151), IntKind.i16.wrap (wrap64 (1 + t154)), IntKind.i8.wrap (wrap64 (bt157.1 - 7)), bt157.2.1, bt157.2.2))) = some (r1, r2, r3, r4, r5, r6, r7, r8) := H
  have A8 := Aside0.mk A80
  clear A80
  replace H := Option.bind_eq_some_iff.mp H
  obtain ⟨⟨t157, t158, t159⟩, A90, H⟩ := H
  replace H : (some (IntKind.i16.wrap (t140), IntKind.i16.wrap (wrap64 (1 + t143)), IntKind.i16.wrap (t148), IntKind.i16.wrap (t151), IntKind.i16.wrap (wrap64 (1 + t154)), IntKind.i8.wrap (wrap64 (t157 - 7)), t158, t159)) = some (r1, r2, r3, r4, r5, r6, r7, r8) := H
  have A9 := Aside0.mk A90
  clear A90
  simp only [Option.some.injEq, Prod.mk.injEq] at H
  obtain ⟨rfl, rfl, rfl, rfl, rfl, rfl, rfl, rfl⟩ := H
  go_enter Try.func63, Try.ntmps63
  go_wp2_with (first | ((with_reducible refine gate_dst (N := 4) rfl ?_); refine box_event ?hg (N := 4) ?hd (cs := #[.int .i16 0, .int .i16 0, .int .i16 0, .int .i16 0, .int .i16 0, .int .i8 0]) (t := 38) ?hr ?_; (case hd => rfl); (case hg => rfl); (case hr => first | (go_simp; done) | (go_simp; rfl)); intro gb139 hg w10 hbox hb; have n0_ := Aside0.mk (IsS111.below (by repeat (first | (with_reducible first | exact HI0.out | apply IsS111.alloc | apply IsS111.drewN | apply IsS111.drew | apply IsS111.set_1 | apply IsS111.set_2) | exact HI0.out)) hb); have n1_ := Aside0.mk (KeepBut.trans (by repeat (first | (with_reducible first | exact HK.out | apply KeepBut.set_ | apply keep_drewN | apply keep_drew | apply keep_alloc) | exact HK.out)) (KeepBut.of_below hb g none) (.inl rfl)); have n2_ := Aside0.mk (below_step (by repeat (first | (with_reducible first | exact HB.out | apply below_alloc | apply pw_below_drewN | apply below_drew1 | refine below_set ?_ (IsS111.ge HI0.out)) | exact HB.out)) hb); have n3_ := Aside0.mk (hbox); have n4_ := Aside0.mk ((by rw [hg]; exact (keep_size (w := w) (g := g) (row := none) (by repeat (first | (with_reducible first | exact HK.out | apply KeepBut.set_ | apply keep_drewN | apply keep_drew | apply keep_alloc) | exact HK.out))) : w.heap.size ≤ gb139)); have n5_ := Aside0.mk ((Nat.le_trans HW0.out (by rw [hg]; exact (keep_size (w := w) (g := g) (row := none) (by repeat (first | (with_reducible first | exact HK.out | apply KeepBut.set_ | apply keep_drewN | apply keep_drew | apply keep_alloc) | exact HK.out))) : w.heap.size ≤ gb139) : w0.heap.size ≤ gb139)); have n6_ := Aside0.mk ((by rw [hg]; exact Nat.ne_of_lt (IsS111.lt (show IsS111 w0 _ g s0_0 s0_1 s0_2 from by repeat (first | (with_reducible first | exact HI0.out | apply IsS111.alloc | apply IsS111.drewN | apply IsS111.drew | apply IsS111.set_1 | apply IsS111.set_2) | exact HI0.out))) : g ≠ gb139)); have n7_ := Aside0.mk ((by rw [hg]; exact Nat.ne_of_gt (IsS111.lt (show IsS111 w0 _ g s0_0 s0_1 s0_2 from by repeat (first | (with_reducible first | exact HI0.out | apply IsS111.alloc | apply IsS111.drewN | apply IsS111.drew | apply IsS111.set_1 | apply IsS111.set_2) | exact HI0.out))) : gb139 ≠ g)); clear HI0; clear HK; clear HB; have HI0 := n0_; have HK := n1_; have HB := n2_; have BK139 := n3_; have GW139 := n4_; have GE139 := n5_; have NB0_139 := n6_; have NB139_0 := n7_; clear n0_ n1_ n2_ n3_ n4_ n5_ n6_ n7_; clear hb hbox hg) | ((with_reducible refine gate_callee (f := 62) rfl ?_); refine goesL_ (some 7) rfl rfl Try.func62 (by kernel_rfl) rfl #[.pointer (some ⟨g, 0, none⟩), .int .i64 5] rfl (by (try simp only [List.map_toArray, List.map_cons, List.map_nil]); first | done | rfl | (simp only [List.length_drop, List.length_take]; rfl)) ?_; (with_reducible refine (spec_l00Src_pick.calls g s0_0 s0_1 s0_2 5 t140 t141 t142 w0 _ ?side1 ?side2 A3.out).mono ?_); (case side1 => repeat (first | (with_reducible first | exact HI0.out | apply IsS111.alloc | apply IsS111.drewN | apply IsS111.drew | apply IsS111.set_1 | apply IsS111.set_2 | refine IsS111.far ?_ NB0_139.out _) | exact HI0.out)); (case side2 => repeat (first | (with_reducible first | exact HB.out | apply below_alloc | apply pw_below_drewN | apply below_drew1 | refine below_set ?_ (IsS111.ge HI0.out) | refine below_set ?_ GE139.out) | exact HB.out)); rintro e w11 ⟨rfl, hi, hb, hk⟩; refine ⟨_, rfl, ?_⟩; have n0_ := Aside0.mk (KeepBut.blk hk (g' := gb139) (o := .cells #[.int .i16 0, .int .i16 0, .int .i16 0, .int .i16 0, .int .i16 0, .int .i8 0] 38 (0, 0)) (by (with_reducible repeat (first | refine blk_drewN ?_ _ | refine blk_drew ?_ | refine blk_alloc ?_ _)); exact BK139.out) NB139_0.out (by simp)); have n1_ := Aside0.mk (KeepBut.trans (by repeat (first | (with_reducible first | exact HK.out | apply KeepBut.set_ | apply keep_drewN | apply keep_drew | apply keep_alloc | refine keep_far ?_ GW139.out _) | exact HK.out)) hk (.inl rfl)); have n2_ := Aside0.mk (hb); have n3_ := Aside0.mk (hi); clear BK139; clear HK; clear HB; clear HI0; have BK139 := n0_; have HK := n1_; have HB := n2_; have HI0 := n3_; clear n0_ n1_ n2_ n3_; (try clear hb); (try clear hb2); (try clear hk); (try clear hi)) | ((with_reducible refine gate_callee (f := 62) rfl ?_); refine goesL_ (some 10) rfl rfl Try.func62 (by kernel_rfl) rfl #[.pointer (some ⟨g, 0, none⟩), .int .i64 6] rfl (by (try simp only [List.map_toArray, List.map_cons, List.map_nil]); first | done | rfl | (simp only [List.length_drop, List.length_take]; rfl)) ?_; (with_reducible refine (spec_l00Src_pick.calls g s0_0 t141 t142 6 t143 t144 t145 w0 _ ?side1 ?side2 A4.out).mono ?_); (case side1 => repeat (first | (with_reducible first | exact HI0.out | apply IsS111.alloc | apply IsS111.drewN | apply IsS111.drew | apply IsS111.set_1 | apply IsS111.set_2 | refine IsS111.far ?_ NB0_139.out _) | exact HI0.out)); (case side2 => repeat (first | (with_reducible first | exact HB.out | apply below_alloc | apply pw_below_drewN | apply below_drew1 | refine below_set ?_ (IsS111.ge HI0.out) | refine below_set ?_ GE139.out) | exact HB.out)); rintro e w12 ⟨rfl, hi, hb, hk⟩; refine ⟨_, rfl, ?_⟩; have n0_ := Aside0.mk (KeepBut.blk hk (g' := gb139) (o := .cells #[.int .i16 0, .int .i16 0, .int .i16 0, .int .i16 0, .int .i16 0, .int .i8 0] 38 (0, 0)) (by (with_reducible repeat (first | refine blk_drewN ?_ _ | refine blk_drew ?_ | refine blk_alloc ?_ _)); exact BK139.out) NB139_0.out (by simp)); have n1_ := Aside0.mk (KeepBut.trans (by repeat (first | (with_reducible first | exact HK.out | apply KeepBut.set_ | apply keep_drewN | apply keep_drew | apply keep_alloc | refine keep_far ?_ GW139.out _) | exact HK.out)) hk (.inl rfl)); have n2_ := Aside0.mk (hb); have n3_ := Aside0.mk (hi); clear BK139; clear HK; clear HB; clear HI0; have BK139 := n0_; have HK := n1_; have HB := n2_; have HI0 := n3_; clear n0_ n1_ n2_ n3_; (try clear hb); (try clear hb2); (try clear hk); (try clear hi)) | ((with_reducible refine gate_dst (N := 5) rfl ?_); refine box_event ?hg (N := 5) ?hd (cs := #[.int .i16 0, .int .i16 0, .int .i16 0, .int .i16 0, .int .i16 0, .int .i8 0]) (t := 38) ?hr ?_; (case hd => rfl); (case hg => rfl); (case hr => first | (go_simp; done) | (go_simp; rfl)); intro gb146 hg w13 hbox hb; have n0_ := Aside0.mk (IsS111.below (by repeat (first | (with_reducible first | exact HI0.out | apply IsS111.alloc | apply IsS111.drewN | apply IsS111.drew | apply IsS111.set_1 | apply IsS111.set_2 | refine IsS111.far ?_ NB0_139.out _) | exact HI0.out)) hb); have n1_ := Aside0.mk (blk_below (g := gb139) (o := .cells #[.int .i16 0, .int .i16 0, .int .i16 0, .int .i16 0, .int .i16 0, .int .i8 0] 38 (0, 0)) (by (with_reducible repeat (first | refine blk_drewN ?_ _ | refine blk_drew ?_ | refine blk_alloc ?_ _)); exact BK139.out) hb); have n2_ := Aside0.mk (KeepBut.trans (by repeat (first | (with_reducible first | exact HK.out | apply KeepBut.set_ | apply keep_drewN | apply keep_drew | apply keep_alloc | refine keep_far ?_ GW139.out _) | exact HK.out)) (KeepBut.of_below hb g none) (.inl rfl)); have n3_ := Aside0.mk (below_step (by repeat (first | (with_reducible first | exact HB.out | apply below_alloc | apply pw_below_drewN | apply below_drew1 | refine below_set ?_ (IsS111.ge HI0.out) | refine below_set ?_ GE139.out) | exact HB.out)) hb); have n4_ := Aside0.mk (hbox); have n5_ := Aside0.mk ((by rw [hg]; exact (keep_size (w := w) (g := g) (row := none) (by repeat (first | (with_reducible first | exact HK.out | apply KeepBut.set_ | apply keep_drewN | apply keep_drew | apply keep_alloc | refine keep_far ?_ GW139.out _) | exact HK.out))) : w.heap.size ≤ gb146)); have n6_ := Aside0.mk ((Nat.le_trans HW0.out (by rw [hg]; exact (keep_size (w := w) (g := g) (row := none) (by repeat (first | (with_reducible first | exact HK.out | apply KeepBut.set_ | apply keep_drewN | apply keep_drew | apply keep_alloc | refine keep_far ?_ GW139.out _) | exact HK.out))) : w.heap.size ≤ gb146) : w0.heap.size ≤ gb146)); have n7_ := Aside0.mk ((by rw [hg]; exact Nat.ne_of_lt (blk_lt (g := gb139) (o := .cells #[.int .i16 0, .int .i16 0, .int .i16 0, .int .i16 0, .int .i16 0, .int .i8 0] 38 (0, 0)) (by (with_reducible repeat (first | refine blk_drewN ?_ _ | refine blk_drew ?_ | refine blk_alloc ?_ _)); exact BK139.out)) : gb139 ≠ gb146)); have n8_ := Aside0.mk ((by rw [hg]; exact Nat.ne_of_gt (blk_lt (g := gb139) (o := .cells #[.int .i16 0, .int .i16 0, .int .i16 0, .int .i16 0, .int .i16 0, .int .i8 0] 38 (0, 0)) (by (with_reducible repeat (first | refine blk_drewN ?_ _ | refine blk_drew ?_ | refine blk_alloc ?_ _)); exact BK139.out)) : gb146 ≠ gb139)); have n9_ := Aside0.mk ((by rw [hg]; exact Nat.ne_of_lt (IsS111.lt (show IsS111 w0 _ g s0_0 t144 t145 from by repeat (first | (with_reducible first | exact HI0.out | apply IsS111.alloc | apply IsS111.drewN | apply IsS111.drew | apply IsS111.set_1 | apply IsS111.set_2 | refine IsS111.far ?_ NB0_139.out _) | exact HI0.out))) : g ≠ gb146)); have n10_ := Aside0.mk ((by rw [hg]; exact Nat.ne_of_gt (IsS111.lt (show IsS111 w0 _ g s0_0 t144 t145 from by repeat (first | (with_reducible first | exact HI0.out | apply IsS111.alloc | apply IsS111.drewN | apply IsS111.drew | apply IsS111.set_1 | apply IsS111.set_2 | refine IsS111.far ?_ NB0_139.out _) | exact HI0.out))) : gb146 ≠ g)); clear HI0; clear BK139; clear HK; clear HB; have HI0 := n0_; have BK139 := n1_; have HK := n2_; have HB := n3_; have BK146 := n4_; have GW146 := n5_; have GE146 := n6_; have NB139_146 := n7_; have NB146_139 := n8_; have NB0_146 := n9_; have NB146_0 := n10_; clear n0_ n1_ n2_ n3_ n4_ n5_ n6_ n7_ n8_ n9_ n10_; clear hb hbox hg; have hnb14 := NB146_139.out; have hnc14 := NB139_146.out; have hnb15 := NB146_0.out; have hnc15 := NB0_146.out; have hcz16_0 : w13.cell? ⟨gb146, 0, none⟩ = some (.int .i16 0) := (blk_cell BK146.out 0).trans rfl; have hcz16_1 : w13.cell? ⟨gb146, 1, none⟩ = some (.int .i16 0) := (blk_cell BK146.out 1).trans rfl; have hcz16_2 : w13.cell? ⟨gb146, 2, none⟩ = some (.int .i16 0) := (blk_cell BK146.out 2).trans rfl; have hcz16_3 : w13.cell? ⟨gb146, 3, none⟩ = some (.int .i16 0) := (blk_cell BK146.out 3).trans rfl; have hcz16_4 : w13.cell? ⟨gb146, 4, none⟩ = some (.int .i16 0) := (blk_cell BK146.out 4).trans rfl; have hcz16_5 : w13.cell? ⟨gb146, 5, none⟩ = some (.int .i8 0) := (blk_cell BK146.out 5).trans rfl; have hfz16_0 := blk_frozen BK146.out 0; have hfz16_1 := blk_frozen BK146.out 1; have hfz16_2 := blk_frozen BK146.out 2; have hfz16_3 := blk_frozen BK146.out 3; have hfz16_4 := blk_frozen BK146.out 4; have hfz16_5 := blk_frozen BK146.out 5) | ((with_reducible refine gate_callee (f := 96) rfl ?_); refine goesL_ (some 16) rfl rfl Try.func96 (by kernel_rfl) rfl #[.int .i64 1, .int .i64 a1] rfl (by (try simp only [List.map_toArray, List.map_cons, List.map_nil]); first | done | rfl | (simp only [List.length_drop, List.length_take]; rfl)) ?_; (with_reducible refine (spec_l00Max.calls 1 a1 t147 _ A5.out).mono ?_); rintro e w' ⟨rfl, ⟨nd, rfl⟩⟩; refine ⟨_, rfl, ?_⟩) | ((with_reducible refine gate_callee (f := 62) rfl ?_); refine goesL_ (some 17) rfl rfl Try.func62 (by kernel_rfl) rfl #[.pointer (some ⟨g, 0, none⟩), .int .i64 t147] rfl (by (try simp only [List.map_toArray, List.map_cons, List.map_nil]); first | done | rfl | (simp only [List.length_drop, List.length_take]; rfl)) ?_; (with_reducible refine (spec_l00Src_pick.calls g s0_0 t144 t145 t147 t148 t149 t150 w0 _ ?side1 ?side2 A6.out).mono ?_); (case side1 => repeat (first | (with_reducible first | exact HI0.out | apply IsS111.alloc | apply IsS111.drewN | apply IsS111.drew | apply IsS111.set_1 | apply IsS111.set_2 | refine IsS111.far ?_ NB0_139.out _ | refine IsS111.far ?_ NB0_146.out _) | exact HI0.out)); (case side2 => repeat (first | (with_reducible first | exact HB.out | apply below_alloc | apply pw_below_drewN | apply below_drew1 | refine below_set ?_ (IsS111.ge HI0.out) | refine below_set ?_ GE139.out | refine below_set ?_ GE146.out) | exact HB.out)); rintro e w17 ⟨rfl, hi, hb, hk⟩; refine ⟨_, rfl, ?_⟩; have n0_ := Aside0.mk (KeepBut.blk hk (g' := gb139) (o := .cells #[.int .i16 0, .int .i16 0, .int .i16 0, .int .i16 0, .int .i16 0, .int .i8 0] 38 (0, 0)) (by (with_reducible repeat (first | refine blk_drewN ?_ _ | refine blk_drew ?_ | refine blk_alloc ?_ _)); refine blk_far ?_ NB139_146.out _; (with_reducible repeat (first | refine blk_drewN ?_ _ | refine blk_drew ?_ | refine blk_alloc ?_ _)); refine blk_far ?_ NB139_146.out _; (with_reducible repeat (first | refine blk_drewN ?_ _ | refine blk_drew ?_ | refine blk_alloc ?_ _)); refine blk_far ?_ NB139_146.out _; (with_reducible repeat (first | refine blk_drewN ?_ _ | refine blk_drew ?_ | refine blk_alloc ?_ _)); refine blk_far ?_ NB139_146.out _; (with_reducible repeat (first | refine blk_drewN ?_ _ | refine blk_drew ?_ | refine blk_alloc ?_ _)); refine blk_far ?_ NB139_146.out _; (with_reducible repeat (first | refine blk_drewN ?_ _ | refine blk_drew ?_ | refine blk_alloc ?_ _)); refine blk_far ?_ NB139_146.out _; (with_reducible repeat (first | refine blk_drewN ?_ _ | refine blk_drew ?_ | refine blk_alloc ?_ _)); exact BK139.out) NB139_0.out (by simp)); have n1_ := Aside0.mk (KeepBut.blk hk (g' := gb146) (o := .cells #[.int .i16 (IntKind.i16.wrap (t140)), .int .i16 (IntKind.i16.wrap (wrap64 (1 + t143))), .int .i16 0, .int .i16 0, .int .i16 0, .int .i8 0] 38 (0, 0)) (by (with_reducible repeat (first | refine blk_drewN ?_ _ | refine blk_drew ?_ | refine blk_alloc ?_ _)); refine blk_put (cs := #[.int .i16 (IntKind.i16.wrap (t140)), .int .i16 (IntKind.i16.wrap (wrap64 (1 + t143))), .int .i16 0, .int .i16 0, .int .i16 0, .int .i8 0]) ?_ 5 _ rfl; (with_reducible repeat (first | refine blk_drewN ?_ _ | refine blk_drew ?_ | refine blk_alloc ?_ _)); refine blk_put (cs := #[.int .i16 (IntKind.i16.wrap (t140)), .int .i16 (IntKind.i16.wrap (wrap64 (1 + t143))), .int .i16 0, .int .i16 0, .int .i16 0, .int .i8 0]) ?_ 4 _ rfl; (with_reducible repeat (first | refine blk_drewN ?_ _ | refine blk_drew ?_ | refine blk_alloc ?_ _)); refine blk_put (cs := #[.int .i16 (IntKind.i16.wrap (t140)), .int .i16 (IntKind.i16.wrap (wrap64 (1 + t143))), .int .i16 0, .int .i16 0, .int .i16 0, .int .i8 0]) ?_ 3 _ rfl; (with_reducible repeat (first | refine blk_drewN ?_ _ | refine blk_drew ?_ | refine blk_alloc ?_ _)); refine blk_put (cs := #[.int .i16 (IntKind.i16.wrap (t140)), .int .i16 (IntKind.i16.wrap (wrap64 (1 + t143))), .int .i16 0, .int .i16 0, .int .i16 0, .int .i8 0]) ?_ 2 _ rfl; (with_reducible repeat (first | refine blk_drewN ?_ _ | refine blk_drew ?_ | refine blk_alloc ?_ _)); refine blk_put (cs := #[.int .i16 (IntKind.i16.wrap (t140)), .int .i16 0, .int .i16 0, .int .i16 0, .int .i16 0, .int .i8 0]) ?_ 1 _ rfl; (with_reducible repeat (first | refine blk_drewN ?_ _ | refine blk_drew ?_ | refine blk_alloc ?_ _)); refine blk_put (cs := #[.int .i16 0, .int .i16 0, .int .i16 0, .int .i16 0, .int .i16 0, .int .i8 0]) ?_ 0 _ rfl; (with_reducible repeat (first | refine blk_drewN ?_ _ | refine blk_drew ?_ | refine blk_alloc ?_ _)); exact BK146.out) NB146_0.out (by simp)); have n2_ := Aside0.mk (KeepBut.trans (by repeat (first | (with_reducible first | exact HK.out | apply KeepBut.set_ | apply keep_drewN | apply keep_drew | apply keep_alloc | refine keep_far ?_ GW139.out _ | refine keep_far ?_ GW146.out _) | exact HK.out)) hk (.inl rfl)); have n3_ := Aside0.mk (hb); have n4_ := Aside0.mk (hi); clear BK139; clear BK146; clear HK; clear HB; clear HI0; have BK139 := n0_; have BK146 := n1_; have HK := n2_; have HB := n3_; have HI0 := n4_; clear n0_ n1_ n2_ n3_ n4_; (try clear hb); (try clear hb2); (try clear hk); (try clear hi); have hcz18_0 : w17.cell? ⟨gb146, 0, none⟩ = some (.int .i16 (IntKind.i16.wrap (t140))) := (blk_cell BK146.out 0).trans rfl; have hcz18_1 : w17.cell? ⟨gb146, 1, none⟩ = some (.int .i16 (IntKind.i16.wrap (wrap64 (1 + t143)))) := (blk_cell BK146.out 1).trans rfl; have hcz18_2 : w17.cell? ⟨gb146, 2, none⟩ = some (.int .i16 0) := (blk_cell BK146.out 2).trans rfl; have hcz18_3 : w17.cell? ⟨gb146, 3, none⟩ = some (.int .i16 0) := (blk_cell BK146.out 3).trans rfl; have hcz18_4 : w17.cell? ⟨gb146, 4, none⟩ = some (.int .i16 0) := (blk_cell BK146.out 4).trans rfl; have hcz18_5 : w17.cell? ⟨gb146, 5, none⟩ = some (.int .i8 0) := (blk_cell BK146.out 5).trans rfl; have hfz18_0 := blk_frozen BK146.out 0; have hfz18_1 := blk_frozen BK146.out 1; have hfz18_2 := blk_frozen BK146.out 2; have hfz18_3 := blk_frozen BK146.out 3; have hfz18_4 := blk_frozen BK146.out 4; have hfz18_5 := blk_frozen BK146.out 5) | ((with_reducible refine gate_callee (f := 62) rfl ?_); refine goesL_ (some 21) rfl rfl Try.func62 (by kernel_rfl) rfl #[.pointer (some ⟨g, 0, none⟩), .int .i64 5] rfl (by (try simp only [List.map_toArray, List.map_cons, List.map_nil]); first | done | rfl | (simp only [List.length_drop, List.length_take]; rfl)) ?_; (with_reducible refine (spec_l00Src_pick.calls g s0_0 t149 t150 5 t151 t152 t153 w0 _ ?side1 ?side2 A7.out).mono ?_); (case side1 => repeat (first | (with_reducible first | exact HI0.out | apply IsS111.alloc | apply IsS111.drewN | apply IsS111.drew | apply IsS111.set_1 | apply IsS111.set_2 | refine IsS111.far ?_ NB0_139.out _ | refine IsS111.far ?_ NB0_146.out _) | exact HI0.out)); (case side2 => repeat (first | (with_reducible first | exact HB.out | apply below_alloc | apply pw_below_drewN | apply below_drew1 | refine below_set ?_ (IsS111.ge HI0.out) | refine below_set ?_ GE139.out | refine below_set ?_ GE146.out) | exact HB.out)); rintro e w19 ⟨rfl, hi, hb, hk⟩; refine ⟨_, rfl, ?_⟩; have n0_ := Aside0.mk (KeepBut.blk hk (g' := gb139) (o := .cells #[.int .i16 0, .int .i16 0, .int .i16 0, .int .i16 0, .int .i16 0, .int .i8 0] 38 (0, 0)) (by (with_reducible repeat (first | refine blk_drewN ?_ _ | refine blk_drew ?_ | refine blk_alloc ?_ _)); refine blk_far ?_ NB139_146.out _; (with_reducible repeat (first | refine blk_drewN ?_ _ | refine blk_drew ?_ | refine blk_alloc ?_ _)); exact BK139.out) NB139_0.out (by simp)); have n1_ := Aside0.mk (KeepBut.blk hk (g' := gb146) (o := .cells #[.int .i16 (IntKind.i16.wrap (t140)), .int .i16 (IntKind.i16.wrap (wrap64 (1 + t143))), .int .i16 (IntKind.i16.wrap (t148)), .int .i16 0, .int .i16 0, .int .i8 0] 38 (0, 0)) (by (with_reducible repeat (first | refine blk_drewN ?_ _ | refine blk_drew ?_ | refine blk_alloc ?_ _)); refine blk_put (cs := #[.int .i16 (IntKind.i16.wrap (t140)), .int .i16 (IntKind.i16.wrap (wrap64 (1 + t143))), .int .i16 0, .int .i16 0, .int .i16 0, .int .i8 0]) ?_ 2 _ rfl; (with_reducible repeat (first | refine blk_drewN ?_ _ | refine blk_drew ?_ | refine blk_alloc ?_ _)); exact BK146.out) NB146_0.out (by simp)); have n2_ := Aside0.mk (KeepBut.trans (by repeat (first | (with_reducible first | exact HK.out | apply KeepBut.set_ | apply keep_drewN | apply keep_drew | apply keep_alloc | refine keep_far ?_ GW139.out _ | refine keep_far ?_ GW146.out _) | exact HK.out)) hk (.inl rfl)); have n3_ := Aside0.mk (hb); have n4_ := Aside0.mk (hi); clear BK139; clear BK146; clear HK; clear HB; clear HI0; have BK139 := n0_; have BK146 := n1_; have HK := n2_; have HB := n3_; have HI0 := n4_; clear n0_ n1_ n2_ n3_ n4_; (try clear hb); (try clear hb2); (try clear hk); (try clear hi); have hcz20_0 : w19.cell? ⟨gb146, 0, none⟩ = some (.int .i16 (IntKind.i16.wrap (t140))) := (blk_cell BK146.out 0).trans rfl; have hcz20_1 : w19.cell? ⟨gb146, 1, none⟩ = some (.int .i16 (IntKind.i16.wrap (wrap64 (1 + t143)))) := (blk_cell BK146.out 1).trans rfl; have hcz20_2 : w19.cell? ⟨gb146, 2, none⟩ = some (.int .i16 (IntKind.i16.wrap (t148))) := (blk_cell BK146.out 2).trans rfl; have hcz20_3 : w19.cell? ⟨gb146, 3, none⟩ = some (.int .i16 0) := (blk_cell BK146.out 3).trans rfl; have hcz20_4 : w19.cell? ⟨gb146, 4, none⟩ = some (.int .i16 0) := (blk_cell BK146.out 4).trans rfl; have hcz20_5 : w19.cell? ⟨gb146, 5, none⟩ = some (.int .i8 0) := (blk_cell BK146.out 5).trans rfl; have hfz20_0 := blk_frozen BK146.out 0; have hfz20_1 := blk_frozen BK146.out 1; have hfz20_2 := blk_frozen BK146.out 2; have hfz20_3 := blk_frozen BK146.out 3; have hfz20_4 := blk_frozen BK146.out 4; have hfz20_5 := blk_frozen BK146.out 5) | ((with_reducible refine gate_callee (f := 62) rfl ?_); refine goesL_ (some 25) rfl rfl Try.func62 (by kernel_rfl) rfl #[.pointer (some ⟨g, 0, none⟩), .int .i64 6] rfl (by (try simp only [List.map_toArray, List.map_cons, List.map_nil]); first | done | rfl | (simp only [List.length_drop, List.length_take]; rfl)) ?_; (with_reducible refine (spec_l00Src_pick.calls g s0_0 t152 t153 6 t154 t155 t156 w0 _ ?side1 ?side2 A8.out).mono ?_); (case side1 => repeat (first | (with_reducible first | exact HI0.out | apply IsS111.alloc | apply IsS111.drewN | apply IsS111.drew | apply IsS111.set_1 | apply IsS111.set_2 | refine IsS111.far ?_ NB0_139.out _ | refine IsS111.far ?_ NB0_146.out _) | exact HI0.out)); (case side2 => repeat (first | (with_reducible first | exact HB.out | apply below_alloc | apply pw_below_drewN | apply below_drew1 | refine below_set ?_ (IsS111.ge HI0.out) | refine below_set ?_ GE139.out | refine below_set ?_ GE146.out) | exact HB.out)); rintro e w21 ⟨rfl, hi, hb, hk⟩; refine ⟨_, rfl, ?_⟩; have n0_ := Aside0.mk (KeepBut.blk hk (g' := gb139) (o := .cells #[.int .i16 0, .int .i16 0, .int .i16 0, .int .i16 0, .int .i16 0, .int .i8 0] 38 (0, 0)) (by (with_reducible repeat (first | refine blk_drewN ?_ _ | refine blk_drew ?_ | refine blk_alloc ?_ _)); refine blk_far ?_ NB139_146.out _; (with_reducible repeat (first | refine blk_drewN ?_ _ | refine blk_drew ?_ | refine blk_alloc ?_ _)); exact BK139.out) NB139_0.out (by simp)); have n1_ := Aside0.mk (KeepBut.blk hk (g' := gb146) (o := .cells #[.int .i16 (IntKind.i16.wrap (t140)), .int .i16 (IntKind.i16.wrap (wrap64 (1 + t143))), .int .i16 (IntKind.i16.wrap (t148)), .int .i16 (IntKind.i16.wrap (t151)), .int .i16 0, .int .i8 0] 38 (0, 0)) (by (with_reducible repeat (first | refine blk_drewN ?_ _ | refine blk_drew ?_ | refine blk_alloc ?_ _)); refine blk_put (cs := #[.int .i16 (IntKind.i16.wrap (t140)), .int .i16 (IntKind.i16.wrap (wrap64 (1 + t143))), .int .i16 (IntKind.i16.wrap (t148)), .int .i16 0, .int .i16 0, .int .i8 0]) ?_ 3 _ rfl; (with_reducible repeat (first | refine blk_drewN ?_ _ | refine blk_drew ?_ | refine blk_alloc ?_ _)); exact BK146.out) NB146_0.out (by simp)); have n2_ := Aside0.mk (KeepBut.trans (by repeat (first | (with_reducible first | exact HK.out | apply KeepBut.set_ | apply keep_drewN | apply keep_drew | apply keep_alloc | refine keep_far ?_ GW139.out _ | refine keep_far ?_ GW146.out _) | exact HK.out)) hk (.inl rfl)); have n3_ := Aside0.mk (hb); have n4_ := Aside0.mk (hi); clear BK139; clear BK146; clear HK; clear HB; clear HI0; have BK139 := n0_; have BK146 := n1_; have HK := n2_; have HB := n3_; have HI0 := n4_; clear n0_ n1_ n2_ n3_ n4_; (try clear hb); (try clear hb2); (try clear hk); (try clear hi); have hcz22_0 : w21.cell? ⟨gb146, 0, none⟩ = some (.int .i16 (IntKind.i16.wrap (t140))) := (blk_cell BK146.out 0).trans rfl; have hcz22_1 : w21.cell? ⟨gb146, 1, none⟩ = some (.int .i16 (IntKind.i16.wrap (wrap64 (1 + t143)))) := (blk_cell BK146.out 1).trans rfl; have hcz22_2 : w21.cell? ⟨gb146, 2, none⟩ = some (.int .i16 (IntKind.i16.wrap (t148))) := (blk_cell BK146.out 2).trans rfl; have hcz22_3 : w21.cell? ⟨gb146, 3, none⟩ = some (.int .i16 (IntKind.i16.wrap (t151))) := (blk_cell BK146.out 3).trans rfl; have hcz22_4 : w21.cell? ⟨gb146, 4, none⟩ = some (.int .i16 0) := (blk_cell BK146.out 4).trans rfl; have hcz22_5 : w21.cell? ⟨gb146, 5, none⟩ = some (.int .i8 0) := (blk_cell BK146.out 5).trans rfl; have hfz22_0 := blk_frozen BK146.out 0; have hfz22_1 := blk_frozen BK146.out 1; have hfz22_2 := blk_frozen BK146.out 2; have hfz22_3 := blk_frozen BK146.out 3; have hfz22_4 := blk_frozen BK146.out 4; have hfz22_5 := blk_frozen BK146.out 5) | ((with_reducible refine gate_callee (f := 62) rfl ?_); refine goesL_ (some 30) rfl rfl Try.func62 (by kernel_rfl) rfl #[.pointer (some ⟨g, 0, none⟩), .int .i64 15] rfl (by (try simp only [List.map_toArray, List.map_cons, List.map_nil]); first | done | rfl | (simp only [List.length_drop, List.length_take]; rfl)) ?_; (with_reducible refine (spec_l00Src_pick.calls g s0_0 t155 t156 15 t157 t158 t159 w0 _ ?side1 ?side2 A9.out).mono ?_); (case side1 => repeat (first | (with_reducible first | exact HI0.out | apply IsS111.alloc | apply IsS111.drewN | apply IsS111.drew | apply IsS111.set_1 | apply IsS111.set_2 | refine IsS111.far ?_ NB0_139.out _ | refine IsS111.far ?_ NB0_146.out _) | exact HI0.out)); (case side2 => repeat (first | (with_reducible first | exact HB.out | apply below_alloc | apply pw_below_drewN | apply below_drew1 | refine below_set ?_ (IsS111.ge HI0.out) | refine below_set ?_ GE139.out | refine below_set ?_ GE146.out) | exact HB.out)); rintro e w23 ⟨rfl, hi, hb, hk⟩; refine ⟨_, rfl, ?_⟩; have n0_ := Aside0.mk (KeepBut.blk hk (g' := gb139) (o := .cells #[.int .i16 0, .int .i16 0, .int .i16 0, .int .i16 0, .int .i16 0, .int .i8 0] 38 (0, 0)) (by (with_reducible repeat (first | refine blk_drewN ?_ _ | refine blk_drew ?_ | refine blk_alloc ?_ _)); refine blk_far ?_ NB139_146.out _; (with_reducible repeat (first | refine blk_drewN ?_ _ | refine blk_drew ?_ | refine blk_alloc ?_ _)); exact BK139.out) NB139_0.out (by simp)); have n1_ := Aside0.mk (KeepBut.blk hk (g' := gb146) (o := .cells #[.int .i16 (IntKind.i16.wrap (t140)), .int .i16 (IntKind.i16.wrap (wrap64 (1 + t143))), .int .i16 (IntKind.i16.wrap (t148)), .int .i16 (IntKind.i16.wrap (t151)), .int .i16 (IntKind.i16.wrap (wrap64 (1 + t154))), .int .i8 0] 38 (0, 0)) (by (with_reducible repeat (first | refine blk_drewN ?_ _ | refine blk_drew ?_ | refine blk_alloc ?_ _)); refine blk_put (cs := #[.int .i16 (IntKind.i16.wrap (t140)), .int .i16 (IntKind.i16.wrap (wrap64 (1 + t143))), .int .i16 (IntKind.i16.wrap (t148)), .int .i16 (IntKind.i16.wrap (t151)), .int .i16 0, .int .i8 0]) ?_ 4 _ rfl; (with_reducible repeat (first | refine blk_drewN ?_ _ | refine blk_drew ?_ | refine blk_alloc ?_ _)); exact BK146.out) NB146_0.out (by simp)); have n2_ := Aside0.mk (KeepBut.trans (by repeat (first | (with_reducible first | exact HK.out | apply KeepBut.set_ | apply keep_drewN | apply keep_drew | apply keep_alloc | refine keep_far ?_ GW139.out _ | refine keep_far ?_ GW146.out _) | exact HK.out)) hk (.inl rfl)); have n3_ := Aside0.mk (hb); have n4_ := Aside0.mk (hi); clear BK139; clear BK146; clear HK; clear HB; clear HI0; have BK139 := n0_; have BK146 := n1_; have HK := n2_; have HB := n3_; have HI0 := n4_; clear n0_ n1_ n2_ n3_ n4_; (try clear hb); (try clear hb2); (try clear hk); (try clear hi); have hcz24_0 : w23.cell? ⟨gb146, 0, none⟩ = some (.int .i16 (IntKind.i16.wrap (t140))) := (blk_cell BK146.out 0).trans rfl; have hcz24_1 : w23.cell? ⟨gb146, 1, none⟩ = some (.int .i16 (IntKind.i16.wrap (wrap64 (1 + t143)))) := (blk_cell BK146.out 1).trans rfl; have hcz24_2 : w23.cell? ⟨gb146, 2, none⟩ = some (.int .i16 (IntKind.i16.wrap (t148))) := (blk_cell BK146.out 2).trans rfl; have hcz24_3 : w23.cell? ⟨gb146, 3, none⟩ = some (.int .i16 (IntKind.i16.wrap (t151))) := (blk_cell BK146.out 3).trans rfl; have hcz24_4 : w23.cell? ⟨gb146, 4, none⟩ = some (.int .i16 (IntKind.i16.wrap (wrap64 (1 + t154)))) := (blk_cell BK146.out 4).trans rfl; have hcz24_5 : w23.cell? ⟨gb146, 5, none⟩ = some (.int .i8 0) := (blk_cell BK146.out 5).trans rfl; have hfz24_0 := blk_frozen BK146.out 0; have hfz24_1 := blk_frozen BK146.out 1; have hfz24_2 := blk_frozen BK146.out 2; have hfz24_3 := blk_frozen BK146.out 3; have hfz24_4 := blk_frozen BK146.out 4; have hfz24_5 := blk_frozen BK146.out 5; have hnb25 := NB139_0.out; have hnc25 := NB0_139.out; have hcz26_0 : w23.cell? ⟨gb139, 0, none⟩ = some (.int .i16 0) := (blk_cell BK139.out 0).trans rfl; have hcz26_1 : w23.cell? ⟨gb139, 1, none⟩ = some (.int .i16 0) := (blk_cell BK139.out 1).trans rfl; have hcz26_2 : w23.cell? ⟨gb139, 2, none⟩ = some (.int .i16 0) := (blk_cell BK139.out 2).trans rfl; have hcz26_3 : w23.cell? ⟨gb139, 3, none⟩ = some (.int .i16 0) := (blk_cell BK139.out 3).trans rfl; have hcz26_4 : w23.cell? ⟨gb139, 4, none⟩ = some (.int .i16 0) := (blk_cell BK139.out 4).trans rfl; have hcz26_5 : w23.cell? ⟨gb139, 5, none⟩ = some (.int .i8 0) := (blk_cell BK139.out 5).trans rfl; have hfz26_0 := blk_frozen BK139.out 0; have hfz26_1 := blk_frozen BK139.out 1; have hfz26_2 := blk_frozen BK139.out 2; have hfz26_3 := blk_frozen BK139.out 3; have hfz26_4 := blk_frozen BK139.out 4; have hfz26_5 := blk_frozen BK139.out 5))
  refine bodyPost_ret (results_cell_row rfl _ _ gb139 38 #[.int .i16 (IntKind.i16.wrap (t140)), .int .i16 (IntKind.i16.wrap (wrap64 (1 + t143))), .int .i16 (IntKind.i16.wrap (t148)), .int .i16 (IntKind.i16.wrap (t151)), .int .i16 (IntKind.i16.wrap (wrap64 (1 + t154))), .int .i8 (IntKind.i8.wrap (wrap64 (t157 - 7)))] (0, 0) _ rfl (by (with_reducible repeat (first | refine blk_drewN ?_ _ | refine blk_drew ?_ | refine blk_alloc ?_ _)); refine blk_put (cs := #[.int .i16 (IntKind.i16.wrap (t140)), .int .i16 (IntKind.i16.wrap (wrap64 (1 + t143))), .int .i16 (IntKind.i16.wrap (t148)), .int .i16 (IntKind.i16.wrap (t151)), .int .i16 (IntKind.i16.wrap (wrap64 (1 + t154))), .int .i8 0]) ?_ 5 _ rfl; (with_reducible repeat (first | refine blk_drewN ?_ _ | refine blk_drew ?_ | refine blk_alloc ?_ _)); refine blk_put (cs := #[.int .i16 (IntKind.i16.wrap (t140)), .int .i16 (IntKind.i16.wrap (wrap64 (1 + t143))), .int .i16 (IntKind.i16.wrap (t148)), .int .i16 (IntKind.i16.wrap (t151)), .int .i16 0, .int .i8 0]) ?_ 4 _ rfl; (with_reducible repeat (first | refine blk_drewN ?_ _ | refine blk_drew ?_ | refine blk_alloc ?_ _)); refine blk_put (cs := #[.int .i16 (IntKind.i16.wrap (t140)), .int .i16 (IntKind.i16.wrap (wrap64 (1 + t143))), .int .i16 (IntKind.i16.wrap (t148)), .int .i16 0, .int .i16 0, .int .i8 0]) ?_ 3 _ rfl; (with_reducible repeat (first | refine blk_drewN ?_ _ | refine blk_drew ?_ | refine blk_alloc ?_ _)); refine blk_put (cs := #[.int .i16 (IntKind.i16.wrap (t140)), .int .i16 (IntKind.i16.wrap (wrap64 (1 + t143))), .int .i16 0, .int .i16 0, .int .i16 0, .int .i8 0]) ?_ 2 _ rfl; (with_reducible repeat (first | refine blk_drewN ?_ _ | refine blk_drew ?_ | refine blk_alloc ?_ _)); refine blk_put (cs := #[.int .i16 (IntKind.i16.wrap (t140)), .int .i16 0, .int .i16 0, .int .i16 0, .int .i16 0, .int .i8 0]) ?_ 1 _ rfl; (with_reducible repeat (first | refine blk_drewN ?_ _ | refine blk_drew ?_ | refine blk_alloc ?_ _)); refine blk_put (cs := #[.int .i16 0, .int .i16 0, .int .i16 0, .int .i16 0, .int .i16 0, .int .i8 0]) ?_ 0 _ rfl; (with_reducible repeat (first | refine blk_drewN ?_ _ | refine blk_drew ?_ | refine blk_alloc ?_ _)); refine blk_far ?_ NB139_146.out _; (with_reducible repeat (first | refine blk_drewN ?_ _ | refine blk_drew ?_ | refine blk_alloc ?_ _)); exact BK139.out) Try.underlying38 rfl (by kernel_rfl)) rfl ?_
  exact ⟨by first | rfl | (simp [errW_none, errW_some] <;> rfl) | (simp [*, errW_none, errW_some] <;> rfl), by repeat (first | (with_reducible first | exact HI0.out | apply IsS111.alloc | apply IsS111.drewN | apply IsS111.drew | apply IsS111.set_1 | apply IsS111.set_2 | refine IsS111.far ?_ NB0_139.out _ | refine IsS111.far ?_ NB0_146.out _) | exact HI0.out), by repeat (first | (with_reducible first | exact HB.out | apply below_alloc | apply pw_below_drewN | apply below_drew1 | refine below_set ?_ (IsS111.ge HI0.out) | refine below_set ?_ GE139.out | refine below_set ?_ GE146.out) | exact HB.out), by repeat (first | (with_reducible first | exact HK.out | apply KeepBut.set_ | apply keep_drewN | apply keep_drew | apply keep_alloc | refine keep_far ?_ GW139.out _ | refine keep_far ?_ GW146.out _) | exact HK.out)⟩
end Go.Proofs.Ytmheflciiodhdaa.P
