/- Part 1 of the proof of the law FnExactMissedWalks: contracts of the functions it reaches. -/
import Derived.Test.YtmheflciiodhdaaF0
import Derived.Deep.Slices
import Derived.WalkKit
import Derived.ProofKit
import Derived.OpenShut
import Derived.ShutString
import Derived.ChangeOld
import Derived.Below
import Derived.SizedLaws
/- What a law's argument holds when it is opened: a row of the print's kinds, and the bounds of its words. -/
namespace Go.Proofs.Ytmheflciiodhdaa.P
open Go.RowKit Go.Proofs.YtmheflciiodhdaaW.PrintWords Go.Proofs.YtmheflciiodhdaaW.PrintLast Go.Proofs.YtmheflciiodhdaaW.PrintMore
open Go.ChangeShapes Go.WideShapes Go.Deep
def Opens {α : Type} (P : Program) (d : Kd α) (t : TypeId) (good : α → Prop) : Prop :=
  ∀ (H : Type) (enc : TypeId × Value → H) (W : World) (base fuel : Nat) (held : Bool) (cs : List Value) (x : DataW H × List MemPlace), DataW.trod enc P W base (fun _ => true) held fuel t cs = some x → ∃ y, d.K W y cs ∧ good y
theorem wf_mm {k : IntKind} {n : Int} (h : (Lit.int k n).wf = true) : k.min ≤ n ∧ n ≤ k.max := by simpa [Lit.wf] using h
theorem Opens.int {P : Program} {k : IntKind} {t : TypeId} (hu : P.underlying t = some (.int k)) : Opens P (Kd.int k) t (fun n => k.min ≤ n ∧ n ≤ k.max) := by
  intro H enc W base fuel held cs x h
  obtain ⟨n, rfl, _, hw⟩ := DataW.trod_int hu h
  exact ⟨n, rfl, by simpa [Lit.wf] using hw⟩
theorem Opens.bool {P : Program} {t : TypeId} (hu : P.underlying t = some .bool) : Opens P Kd.bool t (fun _ => True) := by
  intro H enc W base fuel held cs x h
  obtain ⟨n, rfl, _⟩ := DataW.trod_bool hu h
  exact ⟨n, rfl, trivial⟩
theorem Opens.string {P : Program} {t : TypeId} (hu : P.underlying t = some .string) : Opens P Kd.string t (fun s => s.size ≤ maxLen) := by
  intro H enc W base fuel held cs x h
  obtain ⟨n, rfl, _, hs⟩ := DataW.trod_string hu h
  exact ⟨n, rfl, hs⟩
theorem Opens.slice {α : Type} {P : Program} {t e : TypeId} {d : Kd α} {good : α → Prop} (hu : P.underlying t = some (.slice e)) (hc : P.cellsOf e = d.sz) (h1 : Opens P d e good) : Opens P (Kd.slice e d) t (fun xs => ∀ x ∈ xs, good x) := by
  intro H enc W base fuel held cs x h
  rcases open_slice hu h with ⟨rfl, _⟩ | ⟨a, len, cap, m, n, D, Pl, rfl, hb, hl, hm, hmm, _, hx⟩
  · exact ⟨[], ⟨none, 0, rfl, by simp, by simp, by simp, by simp⟩, by simp⟩
  · have hlm : len ≤ m := by rw [hmm]; simpa using hl
    have each : ∀ i, i < len → ∃ y : Option α, ∃ z cs', y = some z ∧ W.cells? base (a.add (i * P.cellsOf e)) (P.cellsOf e) = some cs' ∧ d.K W z cs' ∧ good z := fun i hi => by
      obtain ⟨cs', hc1, hc2⟩ := hx i (by omega)
      obtain ⟨z, hz, hg⟩ := h1 H enc W base n held cs' _ hc2
      exact ⟨some z, z, cs', rfl, hc1, hz, hg⟩
    obtain ⟨f, hf⟩ := choose_lt each
    have hmax : maxLen ≤ 9223372036854775807 := by decide
    have hlen : ((List.range len).filterMap f).length = len := by
      have : ∀ n, n ≤ len → ((List.range n).filterMap f).length = n := by
        intro n
        induction n with
        | zero => intro _; rfl
        | succ n ih =>
          intro hn
          obtain ⟨z, cs', hz, -⟩ := hf n (by omega)
          rw [List.range_succ, List.filterMap_append, List.length_append, ih (by omega)]
          simp [hz]
      exact this len (Nat.le_refl _)
    have hget : ∀ n, n ≤ len → ∀ i, i < n → ((List.range n).filterMap f)[i]? = f i := by
      intro n
      induction n with
      | zero => intro _ i hi; omega
      | succ n ih =>
        intro hn i hi
        obtain ⟨z, cs', hz, -⟩ := hf n (by omega)
        have hl' : ((List.range n).filterMap f).length = n := by
          have : ∀ m, m ≤ n → ((List.range m).filterMap f).length = m := by
            intro m
            induction m with
            | zero => intro _; rfl
            | succ m ihm =>
              intro hm'
              obtain ⟨z', cs'', hz', -⟩ := hf m (by omega)
              rw [List.range_succ, List.filterMap_append, List.length_append, ihm (by omega)]
              simp [hz']
          exact this n (Nat.le_refl _)
        rw [List.range_succ, List.filterMap_append]
        by_cases hin : i < n
        · rw [List.getElem?_append_left (by omega)]; exact ih (by omega) i hin
        · obtain rfl : i = n := by omega
          rw [List.getElem?_append_right (by omega), hl']; simp [hz]
    refine ⟨(List.range len).filterMap f, ⟨some a, cap, by rw [hlen], by omega, hlen.trans hlen.symm, by rw [hlen]; omega, fun _ => ⟨a, rfl, fun j p hj => ?_⟩⟩, fun y hy => ?_⟩
    · have hjl : j < len := by
        have := (List.getElem?_eq_some_iff.mp hj).1; omega
      rw [hget len (Nat.le_refl _) j hjl] at hj
      obtain ⟨z, cs', hz, hc1, hK, -⟩ := hf j hjl
      rw [hz] at hj
      obtain rfl := Option.some.inj hj
      refine ⟨cs', d.K_len hK, hK, fun i u hi => ?_⟩
      obtain ⟨_, hln, hcell⟩ := World.cells?_some hc1
      have hil : i < cs'.length := (List.getElem?_eq_some_iff.mp hi).1
      have := hcell i (by omega)
      rw [hc, Go.Deep.add_add] at this
      rw [this]; exact hi
    · obtain ⟨i, hi, hfi⟩ := List.mem_filterMap.mp hy
      obtain ⟨z, cs', hz, -, -, hg⟩ := hf i (by simpa using hi)
      rw [hz] at hfi
      obtain rfl := Option.some.inj hfi
      exact hg
/-- A slice as an argument. -/
theorem Opens.arg {α : Type} {P : Program} {t e : TypeId} {d : Kd α} {good : List α → Prop} (h : Opens P (Kd.slice e d) t good) {H : Type} {enc : TypeId × Value → H} {W : World} {base : Nat} {held : Bool} {A : Option Addr} {n c : Nat} {y : DataW H} {ps : List MemPlace}
    (h1 : DataW.Trod enc P W base (fun _ => true) held t (.slice A n c) y ps) : ∃ xs, n = xs.length ∧ xs.length ≤ c ∧ xs.length ≤ 9223372036854775807 ∧ d.C W A xs.length xs ∧ good xs := by
  obtain ⟨fuel, hf⟩ := h1
  obtain ⟨xs, ⟨A', c', e', hl, hC⟩, hg⟩ := h H enc W base fuel held _ _ hf
  have e2 : [Value.slice A n c] = [Value.slice A' xs.length c'] := by simpa [Value.cells] using e'
  simp only [List.cons.injEq, Value.slice.injEq, and_true] at e2
  obtain ⟨rfl, rfl, rfl⟩ := e2
  exact ⟨xs, rfl, hl, hC.2.1, hC, hg⟩
end Go.Proofs.Ytmheflciiodhdaa.P
-- Written by wip/tools/mkprint.py of this repo, over the kit's print, out of the translation; Lean checks it.
namespace Go.Proofs.Ytmheflciiodhdaa.P
open Go.RowKit Go.Proofs.YtmheflciiodhdaaW.PrintWords Go.Proofs.YtmheflciiodhdaaW.PrintLast Go.Proofs.YtmheflciiodhdaaW.PrintMore
attribute [local go_sem] max2_int min2_int max_two min_two max_three min_three max_four min_four   -- for this text's walks alone
set_option linter.unusedVariables false
set_option linter.unusedSimpArgs false
/-! ### impl_Row_uint8_87: given -/
set_option maxHeartbeats 4000000 in
theorem indexFunc_u8 (fid : Nat) (lb : Array Value) (p : Int → Bool) (A : Option Addr) (c : Nat) (xs : List Int) (w : World)
    (hx : Kd.C (Kd.int .u8) w A xs.length xs) (hp : PredI Try.prog fid lb .u8 p w) :
    Calls Try.prog 113 #[.slice A xs.length c, .func (.func fid) #[] lb] w fun e w' => e = .returned (.int .i64 (idx p xs 0)) ∧ Drawn0 w w' := by
  have HR := Aside0.mk hx
  have hn := Kd.C_max hx
  have HP := Aside0.mk hp
  have eg := hp.eg
  clear hx hp
  go_enter Try.func113, Try.ntmps113
  go_wp2
  go_loopw [5, 8] (fun v5 v8 w' => ∃ k : Nat, k ≤ xs.length ∧ v8 = .int .i64 k ∧ Aside0 (idx p (xs.drop k) k = idx p xs 0) ∧ Drawn0 w w') (fun _ v8 _ => xs.length - (intOf v8).toNat)
  case atStart => exact ⟨0, Nat.zero_le _, rfl, ⟨by simp⟩, by repeat (first | exact Drawn0.refl _ | apply Drawn0.step)⟩
  case round =>
    obtain ⟨k, hk, rfl, hi, ⟨nd, rfl⟩⟩ := hrel
    by_cases hlt : k < xs.length
    · obtain ⟨ad, rfl, hcell⟩ := at_nat HR.out k hlt
      have HPK := Aside0.mk (HP.out.at_ (w.drewN nd) (Drawn0.below ⟨⟨nd, rfl⟩⟩) (rd xs (k : Int)))
      have HI : Aside0 ((if p (rd xs (k : Int)) then (k : Int) else idx p (xs.drop (k + 1)) (k + 1)) = idx p xs 0) := ⟨by have := hi.out; rw [drop_rd hlt] at this; exact this⟩
      clear hi
      cases hpv : p (rd xs (k : Int)) with
      | true =>
        rw [hpv] at HPK HI
        clear hpv
        go_wp2_with (go_at_fn fid; refine HPK.out.mono ?_; rintro e w' ⟨rfl, ⟨nd2, rfl⟩⟩)
        go_ret
        exact ⟨by rw [← HI.out]; rfl, by repeat (first | exact Drawn0.refl _ | apply Drawn0.step)⟩
      | false =>
        rw [hpv] at HPK HI
        clear hpv
        go_wp2_with (go_at_fn fid; refine HPK.out.mono ?_; rintro e w' ⟨rfl, ⟨nd2, rfl⟩⟩)
        go_roundw
        case rel => exact ⟨k + 1, by omega, by go_num, ⟨by have := HI.out; simpa using this⟩, by repeat (first | exact Drawn0.refl _ | apply Drawn0.step)⟩
        case measure => simp [intOf]; omega
    · have hke : k = xs.length := by omega
      go_wp2
      go_ret
      exact ⟨by have := hi.out; subst hke; rw [List.drop_length] at this; rw [← this]; rfl, by repeat (first | exact Drawn0.refl _ | apply Drawn0.step)⟩
set_option maxHeartbeats 1000000 in
theorem containsFunc_u8 (fid : Nat) (lb : Array Value) (p : Int → Bool) (A : Option Addr) (c : Nat) (xs : List Int) (w : World)
    (hx : Kd.C (Kd.int .u8) w A xs.length xs) (hp : PredI Try.prog fid lb .u8 p w) :
    Calls Try.prog 87 #[.slice A xs.length c, .func (.func fid) #[] lb] w fun e w' => e = .returned (.bool (xs.any p)) ∧ Drawn0 w w' := by
  have HR := Aside0.mk hx
  have HP := Aside0.mk hp
  clear hx hp
  go_enter Try.func87, Try.ntmps87
  go_wp2_with (go_at_call 113; refine (indexFunc_u8 fid lb p A c xs _ HR.out HP.out).mono ?_; rintro e w' ⟨rfl, ⟨nd, rfl⟩⟩)
  go_ret
  exact ⟨by rw [← idx_ge p xs 0 (by omega)]; rfl, by repeat (first | exact Drawn0.refl _ | apply Drawn0.step)⟩
end Go.Proofs.Ytmheflciiodhdaa.P
-- Written by wip/tools/mkprint.py of this repo, over the kit's print, out of the translation; Lean checks it.
namespace Go.Proofs.Ytmheflciiodhdaa.P
open Go.RowKit Go.Proofs.YtmheflciiodhdaaW.PrintWords Go.Proofs.YtmheflciiodhdaaW.PrintLast Go.Proofs.YtmheflciiodhdaaW.PrintMore
attribute [local go_sem] max2_int min2_int max_two min_two max_three min_three max_four min_four   -- for this text's walks alone
set_option linter.unusedVariables false
set_option linter.unusedSimpArgs false
/-! ### impl_within: function 69 -/
def impl_within.f (a0 : Int) (a1 : Int) (a2 : Int) : Option (Bool) := if a1 ≤ a0 then (some (decide (a0 ≤ a2))) else (some false)
set_option maxHeartbeats 8000000 in
set_option maxRecDepth 100000 in
theorem impl_within.calls (a0 : Int) (a1 : Int) (a2 : Int) (r : Bool) (w : World) (h : impl_within.f a0 a1 a2 = some r) :
    Calls Try.prog 69 #[.int .i64 a0, .int .i64 a1, .int .i64 a2] w fun e w' => e = .returned (.bool r) ∧ Drawn0 w w' := by
  have H : (if a1 ≤ a0 then (some (decide (a0 ≤ a2))) else (some false)) = some r := h
  clear h
  by_cases c4 : a1 ≤ a0
  · rw [if_pos c4] at H
    have c4b0 : decide (a1 ≤ a0) = true := decide_eq_true c4
    clear c4
    obtain rfl := Option.some.inj H
    go_enter Try.func69, Try.ntmps69
    go_wp2
    go_ret
    exact ⟨by first | rfl | (simp; done) | (simp [*]; done), by repeat (first | exact Drawn0.refl _ | apply Drawn0.step)⟩
  · rw [if_neg c4] at H
    have c4b0 : decide (a1 ≤ a0) = false := decide_eq_false c4
    clear c4
    obtain rfl := Option.some.inj H
    go_enter Try.func69, Try.ntmps69
    go_wp2
    go_ret
    exact ⟨by first | rfl | (simp; done) | (simp [*]; done), by repeat (first | exact Drawn0.refl _ | apply Drawn0.step)⟩
end Go.Proofs.Ytmheflciiodhdaa.P
-- Written by wip/tools/mkprint.py of this repo, over the kit's print, out of the translation; Lean checks it.
namespace Go.Proofs.Ytmheflciiodhdaa.P
open Go.RowKit Go.Proofs.YtmheflciiodhdaaW.PrintWords Go.Proofs.YtmheflciiodhdaaW.PrintLast Go.Proofs.YtmheflciiodhdaaW.PrintMore
attribute [local go_sem] max2_int min2_int max_two min_two max_three min_three max_four min_four   -- for this text's walks alone
set_option linter.unusedVariables false
set_option linter.unusedSimpArgs false
/-! ### slices_ContainsFunc_int64_int64: given -/
set_option maxHeartbeats 4000000 in
theorem indexFunc_i64 (fid : Nat) (lb : Array Value) (p : Int → Bool) (A : Option Addr) (c : Nat) (xs : List Int) (w : World)
    (hx : Kd.C (Kd.int .i64) w A xs.length xs) (hp : PredI Try.prog fid lb .i64 p w) :
    Calls Try.prog 120 #[.slice A xs.length c, .func (.func fid) #[] lb] w fun e w' => e = .returned (.int .i64 (idx p xs 0)) ∧ Drawn0 w w' := by
  have HR := Aside0.mk hx
  have hn := Kd.C_max hx
  have HP := Aside0.mk hp
  have eg := hp.eg
  clear hx hp
  go_enter Try.func120, Try.ntmps120
  go_wp2
  go_loopw [5, 8] (fun v5 v8 w' => ∃ k : Nat, k ≤ xs.length ∧ v8 = .int .i64 k ∧ Aside0 (idx p (xs.drop k) k = idx p xs 0) ∧ Drawn0 w w') (fun _ v8 _ => xs.length - (intOf v8).toNat)
  case atStart => exact ⟨0, Nat.zero_le _, rfl, ⟨by simp⟩, by repeat (first | exact Drawn0.refl _ | apply Drawn0.step)⟩
  case round =>
    obtain ⟨k, hk, rfl, hi, ⟨nd, rfl⟩⟩ := hrel
    by_cases hlt : k < xs.length
    · obtain ⟨ad, rfl, hcell⟩ := at_nat HR.out k hlt
      have HPK := Aside0.mk (HP.out.at_ (w.drewN nd) (Drawn0.below ⟨⟨nd, rfl⟩⟩) (rd xs (k : Int)))
      have HI : Aside0 ((if p (rd xs (k : Int)) then (k : Int) else idx p (xs.drop (k + 1)) (k + 1)) = idx p xs 0) := ⟨by have := hi.out; rw [drop_rd hlt] at this; exact this⟩
      clear hi
      cases hpv : p (rd xs (k : Int)) with
      | true =>
        rw [hpv] at HPK HI
        clear hpv
        go_wp2_with (go_at_fn fid; refine HPK.out.mono ?_; rintro e w' ⟨rfl, ⟨nd2, rfl⟩⟩)
        go_ret
        exact ⟨by rw [← HI.out]; rfl, by repeat (first | exact Drawn0.refl _ | apply Drawn0.step)⟩
      | false =>
        rw [hpv] at HPK HI
        clear hpv
        go_wp2_with (go_at_fn fid; refine HPK.out.mono ?_; rintro e w' ⟨rfl, ⟨nd2, rfl⟩⟩)
        go_roundw
        case rel => exact ⟨k + 1, by omega, by go_num, ⟨by have := HI.out; simpa using this⟩, by repeat (first | exact Drawn0.refl _ | apply Drawn0.step)⟩
        case measure => simp [intOf]; omega
    · have hke : k = xs.length := by omega
      go_wp2
      go_ret
      exact ⟨by have := hi.out; subst hke; rw [List.drop_length] at this; rw [← this]; rfl, by repeat (first | exact Drawn0.refl _ | apply Drawn0.step)⟩
set_option maxHeartbeats 1000000 in
theorem containsFunc_i64 (fid : Nat) (lb : Array Value) (p : Int → Bool) (A : Option Addr) (c : Nat) (xs : List Int) (w : World)
    (hx : Kd.C (Kd.int .i64) w A xs.length xs) (hp : PredI Try.prog fid lb .i64 p w) :
    Calls Try.prog 117 #[.slice A xs.length c, .func (.func fid) #[] lb] w fun e w' => e = .returned (.bool (xs.any p)) ∧ Drawn0 w w' := by
  have HR := Aside0.mk hx
  have HP := Aside0.mk hp
  clear hx hp
  go_enter Try.func117, Try.ntmps117
  go_wp2_with (go_at_call 120; refine (indexFunc_i64 fid lb p A c xs _ HR.out HP.out).mono ?_; rintro e w' ⟨rfl, ⟨nd, rfl⟩⟩)
  go_ret
  exact ⟨by rw [← idx_ge p xs 0 (by omega)]; rfl, by repeat (first | exact Drawn0.refl _ | apply Drawn0.step)⟩
end Go.Proofs.Ytmheflciiodhdaa.P
-- Written by wip/tools/mkprint.py of this repo, over the kit's print, out of the translation; Lean checks it.
namespace Go.Proofs.Ytmheflciiodhdaa.P
open Go.RowKit Go.Proofs.YtmheflciiodhdaaW.PrintWords Go.Proofs.YtmheflciiodhdaaW.PrintLast Go.Proofs.YtmheflciiodhdaaW.PrintMore
attribute [local go_sem] max2_int min2_int max_two min_two max_three min_three max_four min_four   -- for this text's walks alone
set_option linter.unusedVariables false
set_option linter.unusedSimpArgs false
/-! ### impl_allWithin: given -/
def inR (lo hi x : Int) : Bool := decide (lo ≤ x) && decide (x ≤ hi)
theorem within_inR (x lo hi : Int) : impl_within.f x lo hi = some (inR lo hi x) := by
  unfold impl_within.f inR
  by_cases h : lo ≤ x <;> simp [h]
set_option maxHeartbeats 1000000 in
theorem allWithin_pred (lo hi : Int) (a b : Nat) (w : World) (ha : w.cell? ⟨a, 0, none⟩ = some (.int .i64 lo)) (hb : w.cell? ⟨b, 0, none⟩ = some (.int .i64 hi)) :
    PredI Try.prog 118 #[.pointer (some ⟨a, 0, none⟩), .pointer (some ⟨b, 0, none⟩)] .i64 (fun x => !(inR lo hi x)) w := by
  refine ⟨enters_of Try.func118 (by kernel_rfl) rfl, fun W hW x => ?_⟩
  have ha' := pw_cell_below hW ha
  have hb' := pw_cell_below hW hb
  clear ha hb
  show Calls Try.prog 118 #[.int .i64 x, .pointer (some ⟨a, 0, none⟩), .pointer (some ⟨b, 0, none⟩)] W _
  go_enter Try.func118, Try.ntmps118
  go_wp2_with (go_at_call 69; refine (impl_within.calls _ _ _ _ _ (within_inR _ _ _)).mono ?_; rintro e w' ⟨rfl, ⟨nd, rfl⟩⟩)
  go_ret
  exact ⟨rfl, by repeat (first | exact Drawn0.refl _ | apply Drawn0.step)⟩
def impl_allWithin.f (l0 : List Int) (a1 : Int) (a2 : Int) : Option Bool := some (l0.all (inR a1 a2))
set_option maxHeartbeats 1000000 in
theorem impl_allWithin.calls (A0 : Option Addr) (c0 : Nat) (l0 : List Int) (a1 : Int) (a2 : Int) (r : Bool) (w : World) (hr0 : Kd.C (Kd.int .i64) w A0 l0.length l0) (hc0 : l0.length ≤ c0) (h : impl_allWithin.f l0 a1 a2 = some r) :
    Calls Try.prog 112 #[.slice A0 l0.length c0, .int .i64 a1, .int .i64 a2] w fun e w' => e = .returned (.bool r) ∧ Below w.heap.size w w' := by
  obtain rfl := Option.some.inj h
  have HR := Aside0.mk hr0
  clear hr0 h
  go_enter Try.func112, Try.ntmps112
  go_wp2_with (go_at_call 117; refine (containsFunc_i64 _ _ _ A0 c0 l0 _ (Kd.C_alloc (Kd.C_alloc HR.out _) _) (allWithin_pred a1 a2 _ _ _ (by simp) (by simp))).mono ?_; rintro e w' ⟨rfl, ⟨nd, rfl⟩⟩)
  go_ret
  refine ⟨by rw [List.not_any_eq_all_not]; simp, ?_⟩
  exact pw_below_drewN (below_alloc (below_alloc (Below.refl _ _) _) _) nd
end Go.Proofs.Ytmheflciiodhdaa.P
-- Written by wip/tools/mkprint.py of this repo, over the kit's print, out of the translation; Lean checks it.
namespace Go.Proofs.Ytmheflciiodhdaa.P
open Go.RowKit Go.Proofs.YtmheflciiodhdaaW.PrintWords Go.Proofs.YtmheflciiodhdaaW.PrintLast Go.Proofs.YtmheflciiodhdaaW.PrintMore
attribute [local go_sem] max2_int min2_int max_two min_two max_three min_three max_four min_four   -- for this text's walks alone
set_option linter.unusedVariables false
set_option linter.unusedSimpArgs false
/-! ### impl_ValidRow: given -/
theorem ValidRow_pred (w : World) : PredI Try.prog 97 #[] .u8 (fun x => decide (7 < x)) w := by
  refine ⟨enters_of Try.func97 (by kernel_rfl) rfl, fun W hW x => ?_⟩
  show Calls Try.prog 97 #[.int .u8 x] W _
  go_enter Try.func97, Try.ntmps97
  go_wp2
  go_ret
  exact ⟨rfl, Drawn0.refl _⟩
def validRow (l : List Int) : Bool := inR 1 60 (l.length : Int) && !(l.any fun x => decide (7 < x))
def impl_ValidRow.f (l0 : List Int) : Option Bool := some (validRow l0)
set_option maxHeartbeats 1000000 in
theorem impl_ValidRow.calls (A0 : Option Addr) (c0 : Nat) (l0 : List Int) (r : Bool) (w : World) (hr0 : Kd.C (Kd.int .u8) w A0 l0.length l0) (hc0 : l0.length ≤ c0) (h : impl_ValidRow.f l0 = some r) :
    Calls Try.prog 50 #[.slice A0 l0.length c0] w fun e w' => e = .returned (.bool r) ∧ Drawn0 w w' := by
  obtain rfl := Option.some.inj h
  have HR := Aside0.mk hr0
  clear hr0 h
  unfold validRow
  cases h1 : inR 1 60 (l0.length : Int) with
  | true =>
    have H1 := Aside0.mk (show impl_within.f (l0.length : Int) 1 60 = some true by rw [within_inR, h1])
    clear h1
    go_enter Try.func50, Try.ntmps50
    go_wp2_with (first | (go_at_call 69; refine (impl_within.calls _ _ _ _ _ H1.out).mono ?_; rintro e w' ⟨rfl, ⟨nd, rfl⟩⟩) | (go_at_call 87; refine (containsFunc_u8 _ _ _ A0 c0 l0 _ (Kd.C_drewN HR.out _) (ValidRow_pred _)).mono ?_; rintro e w' ⟨rfl, ⟨nd2, rfl⟩⟩))
    go_ret
    exact ⟨by simp, by repeat (first | exact Drawn0.refl _ | apply Drawn0.step)⟩
  | false =>
    have H1 := Aside0.mk (show impl_within.f (l0.length : Int) 1 60 = some false by rw [within_inR, h1])
    clear h1
    go_enter Try.func50, Try.ntmps50
    go_wp2_with (first | (go_at_call 69; refine (impl_within.calls _ _ _ _ _ H1.out).mono ?_; rintro e w' ⟨rfl, ⟨nd, rfl⟩⟩))
    go_ret
    exact ⟨by simp, by repeat (first | exact Drawn0.refl _ | apply Drawn0.step)⟩
end Go.Proofs.Ytmheflciiodhdaa.P
-- Written by wip/tools/mkprint.py of this repo, over the kit's print, out of the translation; Lean checks it.
namespace Go.Proofs.Ytmheflciiodhdaa.P
open Go.RowKit Go.Proofs.YtmheflciiodhdaaW.PrintWords Go.Proofs.YtmheflciiodhdaaW.PrintLast Go.Proofs.YtmheflciiodhdaaW.PrintMore
attribute [local go_sem] max2_int min2_int max_two min_two max_three min_three max_four min_four   -- for this text's walks alone
set_option linter.unusedVariables false
set_option linter.unusedSimpArgs false
/-! ### impl_Walker_98: given -/
def encW (x : S38) : Value := .agg #[.int .i16 x.f0, .int .i16 x.f1, .int .i16 x.f2, .int .i16 x.f3, .int .i16 x.f4, .int .i8 x.f5]
/-- A closure that tells p of a walker, in every later world. -/
structure PredW (fid : Nat) (lb : Array Value) (p : S38 → Bool) (w : World) : Prop where
  eg : ∀ args w, (callFunc fid args).run Try.prog w = .ok (.enter fid args) w
  at_ : ∀ W, Below w.heap.size w W → ∀ x : S38, Calls Try.prog fid (#[encW x] ++ lb) W fun e w' => e = .returned (.bool (p x)) ∧ Below W.heap.size W w'
def idxW (p : S38 → Bool) : List S38 → Int → Int
  | [], _ => -1
  | x :: r, i => if p x then i else idxW p r (i + 1)
theorem idxW_ge (p : S38 → Bool) : ∀ (xs : List S38) (i : Int), 0 ≤ i → decide (0 ≤ idxW p xs i) = xs.any p
  | [], i, _ => by simp [idxW]
  | x :: r, i, h => by
    have ih := idxW_ge p r (i + 1) (by omega)
    cases hp : p x <;> simp [idxW, hp, h] <;> simpa using ih
theorem drop_rdW {xs : List S38} {k : Nat} (h : k < xs.length) : xs.drop k = rd_T38 xs (k : Int) :: xs.drop (k + 1) := by
  rw [List.drop_eq_getElem_cons h]; simp [rd_T38, h]
set_option maxHeartbeats 4000000 in
theorem indexFunc_W (fid : Nat) (lb : Array Value) (p : S38 → Bool) (A : Option Addr) (c : Nat) (xs : List S38) (w : World)
    (hx : Kd.C k38 w A xs.length xs) (hp : PredW fid lb p w) :
    Calls Try.prog 116 #[.slice A xs.length c, .func (.func fid) #[] lb] w fun e w' => e = .returned (.int .i64 (idxW p xs 0)) ∧ Below w.heap.size w w' := by
  have HR := Aside0.mk hx
  have hn := Kd.C_max hx
  have HP := Aside0.mk hp
  have eg := hp.eg
  have hu := Try.underlying38
  clear hx hp
  go_enter Try.func116, Try.ntmps116
  go_wp2
  go_loopw [5, 8] (fun v5 v8 w' => ∃ k : Nat, k ≤ xs.length ∧ v8 = .int .i64 k ∧ Aside0 (idxW p (xs.drop k) k = idxW p xs 0) ∧ Aside0 (Below w.heap.size w w')) (fun _ v8 _ => xs.length - (intOf v8).toNat)
  case atStart => exact ⟨0, Nat.zero_le _, rfl, ⟨by simp⟩, ⟨Below.refl _ _⟩⟩
  case round =>
    obtain ⟨k, hk, rfl, hi, hb⟩ := hrel
    by_cases hlt : k < xs.length
    · obtain ⟨ad, rfl, h0, h1, h2, h3, h4, h5⟩ := at_T38 (Kd.C_below HR.out hb.out) (k : Int) (by omega) (by omega)
      simp only [Int.toNat_natCast] at h0 h1 h2 h3 h4 h5
      have HPK := Aside0.mk (HP.out.at_ wr hb.out (rd_T38 xs (k : Int)))
      have HI : Aside0 ((if p (rd_T38 xs (k : Int)) then (k : Int) else idxW p (xs.drop (k + 1)) (k + 1)) = idxW p xs 0) := ⟨by have := hi.out; rw [drop_rdW hlt] at this; exact this⟩
      clear hi
      cases hpv : p (rd_T38 xs (k : Int)) with
      | true =>
        rw [hpv] at HPK HI
        clear hpv
        go_wp2_with (go_at_fn fid; refine HPK.out.mono ?_; rintro e w' ⟨rfl, hb2⟩; have HB2 := Aside0.mk hb2; clear hb2)
        go_ret
        exact ⟨by rw [← HI.out]; rfl, below_step hb.out HB2.out⟩
      | false =>
        rw [hpv] at HPK HI
        clear hpv
        go_wp2_with (go_at_fn fid; refine HPK.out.mono ?_; rintro e w' ⟨rfl, hb2⟩; have HB2 := Aside0.mk hb2; clear hb2)
        go_roundw
        case rel => exact ⟨k + 1, by omega, by go_num, ⟨by have := HI.out; simpa using this⟩, ⟨below_step hb.out HB2.out⟩⟩
        case measure => simp [intOf]; omega
    · have hke : k = xs.length := by omega
      go_wp2
      go_ret
      exact ⟨by have := hi.out; subst hke; rw [List.drop_length] at this; rw [← this]; rfl, hb.out⟩
set_option maxHeartbeats 1000000 in
theorem containsFunc_W (fid : Nat) (lb : Array Value) (p : S38 → Bool) (A : Option Addr) (c : Nat) (xs : List S38) (w : World)
    (hx : Kd.C k38 w A xs.length xs) (hp : PredW fid lb p w) :
    Calls Try.prog 98 #[.slice A xs.length c, .func (.func fid) #[] lb] w fun e w' => e = .returned (.bool (xs.any p)) ∧ Below w.heap.size w w' := by
  have HR := Aside0.mk hx
  have HP := Aside0.mk hp
  clear hx hp
  go_enter Try.func98, Try.ntmps98
  go_wp2_with (go_at_call 116; refine (indexFunc_W fid lb p A c xs _ HR.out HP.out).mono ?_; rintro e w' ⟨rfl, hb⟩; have HB := Aside0.mk hb; clear hb)
  go_ret
  exact ⟨by rw [← idxW_ge p xs 0 (by omega)]; rfl, HB.out⟩
end Go.Proofs.Ytmheflciiodhdaa.P
-- Written by wip/tools/mkprint.py of this repo, over the kit's print, out of the translation; Lean checks it.
namespace Go.Proofs.Ytmheflciiodhdaa.P
open Go.RowKit Go.Proofs.YtmheflciiodhdaaW.PrintWords Go.Proofs.YtmheflciiodhdaaW.PrintLast Go.Proofs.YtmheflciiodhdaaW.PrintMore
attribute [local go_sem] max2_int min2_int max_two min_two max_three min_three max_four min_four   -- for this text's walks alone
set_option linter.unusedVariables false
set_option linter.unusedSimpArgs false
/-! ### impl_ValidWalkers: given -/
def badW (b : Int) (x : S38) : Bool :=
  !(inR 0 10000 (wrap64 x.f0)) || !(inR 1 100 (wrap64 x.f1)) || !(inR 0 (b - 1) (wrap64 x.f2)) || !(inR 0 60 (wrap64 x.f3)) || !(inR 1 60 (wrap64 x.f4)) || !(inR (-7) 7 (wrap64 x.f5))
set_option maxHeartbeats 8000000 in
theorem ValidWalkers_pred (w : World) (g : Nat) (b : Int) (hb0 : 1 ≤ b) (hb1 : b ≤ 60) (hc : w.cell? ⟨g, 0, none⟩ = some (.int .i64 b)) : PredW 99 #[.pointer (some ⟨g, 0, none⟩)] (badW b) w := by
  refine ⟨enters_of Try.func99 (by kernel_rfl) rfl, fun W hW x => ?_⟩
  show Calls Try.prog 99 #[encW x, .pointer (some ⟨g, 0, none⟩)] W _
  have hlt := World.block_lt_of_cell? w _ hc
  have hc' := pw_cell_below hW hc
  have hg' : g < W.heap.size := by have := hW.size; simp at hlt; omega
  clear hc hlt hW
  have hu := Try.underlying38
  obtain ⟨x0, x1, x2, x3, x4, x5⟩ := x
  unfold badW encW
  have E := fun (a lo hi : Int) (r : Bool) (h : inR lo hi a = r) => (show impl_within.f a lo hi = some r by rw [within_inR, h])
  have fin : ∀ W', W' = W.alloc (.cells #[.int .i16 x0, .int .i16 x1, .int .i16 x2, .int .i16 x3, .int .i16 x4, .int .i8 x5] 38) → Below W.heap.size W W' := fun W' h => by rw [h]; exact below_alloc (Below.refl _ _) _
  have FIN := Aside0.mk fin
  clear fin
  by_cases h0 : inR 0 10000 (wrap64 x0) = true
  · have H0 := Aside0.mk (E _ _ _ _ h0)
    by_cases h1 : inR 1 100 (wrap64 x1) = true
    · have H1 := Aside0.mk (E _ _ _ _ h1)
      by_cases h2 : inR 0 (b - 1) (wrap64 x2) = true
      · have H2 := Aside0.mk (E _ _ _ _ h2)
        by_cases h3 : inR 0 60 (wrap64 x3) = true
        · have H3 := Aside0.mk (E _ _ _ _ h3)
          by_cases h4 : inR 1 60 (wrap64 x4) = true
          · have H4 := Aside0.mk (E _ _ _ _ h4)
            have H5 := Aside0.mk (E (wrap64 x5) (-7) 7 _ rfl)
            have HH := Aside0.mk (And.intro h0 (And.intro h1 (And.intro h2 (And.intro h3 h4))))
            clear h0 h1 h2 h3 h4 E
            go_enter Try.func99, Try.ntmps99
            go_wp2_with (go_at_call 69; (first | ((with_reducible refine (impl_within.calls _ _ _ _ _ H0.out).mono ?_); rintro e w' ⟨rfl, ⟨nd, rfl⟩⟩) | ((with_reducible refine (impl_within.calls _ _ _ _ _ H1.out).mono ?_); rintro e w' ⟨rfl, ⟨nd, rfl⟩⟩) | ((with_reducible refine (impl_within.calls _ _ _ _ _ H2.out).mono ?_); rintro e w' ⟨rfl, ⟨nd, rfl⟩⟩) | ((with_reducible refine (impl_within.calls _ _ _ _ _ H3.out).mono ?_); rintro e w' ⟨rfl, ⟨nd, rfl⟩⟩) | ((with_reducible refine (impl_within.calls _ _ _ _ _ H4.out).mono ?_); rintro e w' ⟨rfl, ⟨nd, rfl⟩⟩) | ((with_reducible refine (impl_within.calls _ _ _ _ _ H5.out).mono ?_); rintro e w' ⟨rfl, ⟨nd, rfl⟩⟩)))
            go_ret
            exact ⟨by obtain ⟨h0, h1, h2, h3, h4⟩ := HH.out; simp [h0, h1, h2, h3, h4], by repeat (first | exact FIN.out _ rfl | apply pw_below_drewN)⟩
          · replace h4 := Bool.eq_false_iff.mpr h4
            have H4 := Aside0.mk (E _ _ _ _ h4)
            have HH := Aside0.mk (And.intro h0 (And.intro h1 (And.intro h2 (And.intro h3 h4))))
            clear h0 h1 h2 h3 h4 E
            go_enter Try.func99, Try.ntmps99
            go_wp2_with (go_at_call 69; (first | ((with_reducible refine (impl_within.calls _ _ _ _ _ H0.out).mono ?_); rintro e w' ⟨rfl, ⟨nd, rfl⟩⟩) | ((with_reducible refine (impl_within.calls _ _ _ _ _ H1.out).mono ?_); rintro e w' ⟨rfl, ⟨nd, rfl⟩⟩) | ((with_reducible refine (impl_within.calls _ _ _ _ _ H2.out).mono ?_); rintro e w' ⟨rfl, ⟨nd, rfl⟩⟩) | ((with_reducible refine (impl_within.calls _ _ _ _ _ H3.out).mono ?_); rintro e w' ⟨rfl, ⟨nd, rfl⟩⟩) | ((with_reducible refine (impl_within.calls _ _ _ _ _ H4.out).mono ?_); rintro e w' ⟨rfl, ⟨nd, rfl⟩⟩)))
            go_ret
            exact ⟨by obtain ⟨h0, h1, h2, h3, h4⟩ := HH.out; simp [h0, h1, h2, h3, h4], by repeat (first | exact FIN.out _ rfl | apply pw_below_drewN)⟩
        · replace h3 := Bool.eq_false_iff.mpr h3
          have H3 := Aside0.mk (E _ _ _ _ h3)
          have HH := Aside0.mk (And.intro h0 (And.intro h1 (And.intro h2 h3)))
          clear h0 h1 h2 h3 E
          go_enter Try.func99, Try.ntmps99
          go_wp2_with (go_at_call 69; (first | ((with_reducible refine (impl_within.calls _ _ _ _ _ H0.out).mono ?_); rintro e w' ⟨rfl, ⟨nd, rfl⟩⟩) | ((with_reducible refine (impl_within.calls _ _ _ _ _ H1.out).mono ?_); rintro e w' ⟨rfl, ⟨nd, rfl⟩⟩) | ((with_reducible refine (impl_within.calls _ _ _ _ _ H2.out).mono ?_); rintro e w' ⟨rfl, ⟨nd, rfl⟩⟩) | ((with_reducible refine (impl_within.calls _ _ _ _ _ H3.out).mono ?_); rintro e w' ⟨rfl, ⟨nd, rfl⟩⟩)))
          go_ret
          exact ⟨by obtain ⟨h0, h1, h2, h3⟩ := HH.out; simp [h0, h1, h2, h3], by repeat (first | exact FIN.out _ rfl | apply pw_below_drewN)⟩
      · replace h2 := Bool.eq_false_iff.mpr h2
        have H2 := Aside0.mk (E _ _ _ _ h2)
        have HH := Aside0.mk (And.intro h0 (And.intro h1 h2))
        clear h0 h1 h2 E
        go_enter Try.func99, Try.ntmps99
        go_wp2_with (go_at_call 69; (first | ((with_reducible refine (impl_within.calls _ _ _ _ _ H0.out).mono ?_); rintro e w' ⟨rfl, ⟨nd, rfl⟩⟩) | ((with_reducible refine (impl_within.calls _ _ _ _ _ H1.out).mono ?_); rintro e w' ⟨rfl, ⟨nd, rfl⟩⟩) | ((with_reducible refine (impl_within.calls _ _ _ _ _ H2.out).mono ?_); rintro e w' ⟨rfl, ⟨nd, rfl⟩⟩)))
        go_ret
        exact ⟨by obtain ⟨h0, h1, h2⟩ := HH.out; simp [h0, h1, h2], by repeat (first | exact FIN.out _ rfl | apply pw_below_drewN)⟩
    · replace h1 := Bool.eq_false_iff.mpr h1
      have H1 := Aside0.mk (E _ _ _ _ h1)
      have HH := Aside0.mk (And.intro h0 h1)
      clear h0 h1 E
      go_enter Try.func99, Try.ntmps99
      go_wp2_with (go_at_call 69; (first | ((with_reducible refine (impl_within.calls _ _ _ _ _ H0.out).mono ?_); rintro e w' ⟨rfl, ⟨nd, rfl⟩⟩) | ((with_reducible refine (impl_within.calls _ _ _ _ _ H1.out).mono ?_); rintro e w' ⟨rfl, ⟨nd, rfl⟩⟩)))
      go_ret
      exact ⟨by obtain ⟨h0, h1⟩ := HH.out; simp [h0, h1], by repeat (first | exact FIN.out _ rfl | apply pw_below_drewN)⟩
  · replace h0 := Bool.eq_false_iff.mpr h0
    have H0 := Aside0.mk (E _ _ _ _ h0)
    have HH := Aside0.mk h0
    clear h0 E
    go_enter Try.func99, Try.ntmps99
    go_wp2_with (go_at_call 69; (first | ((with_reducible refine (impl_within.calls _ _ _ _ _ H0.out).mono ?_); rintro e w' ⟨rfl, ⟨nd, rfl⟩⟩)))
    go_ret
    exact ⟨by have h0 := HH.out; simp [h0], by repeat (first | exact FIN.out _ rfl | apply pw_below_drewN)⟩
def validWalkers (b : Int) (l : List S38) : Bool := inR 1 60 b && decide ((l.length : Int) ≤ 8) && !(l.any (badW b))
def impl_ValidWalkers.f (a0 : Int) (l1 : List S38) : Option Bool := some (validWalkers a0 l1)
set_option maxHeartbeats 2000000 in
theorem impl_ValidWalkers.calls (a0 : Int) (A1 : Option Addr) (c1 : Nat) (l1 : List S38) (r : Bool) (w : World) (hr1 : Kd.C k38 w A1 l1.length l1) (hc1 : l1.length ≤ c1) (h : impl_ValidWalkers.f a0 l1 = some r) :
    Calls Try.prog 51 #[.int .i64 a0, .slice A1 l1.length c1] w fun e w' => e = .returned (.bool r) ∧ Below w.heap.size w w' := by
  obtain rfl := Option.some.inj h
  have HR := Aside0.mk hr1
  clear hr1 h
  unfold validWalkers
  cases h1 : inR 1 60 a0 with
  | true =>
    have H1 := Aside0.mk (show impl_within.f a0 1 60 = some true by rw [within_inR, h1])
    have HA : 1 ≤ a0 ∧ a0 ≤ 60 := by simpa [inR] using h1
    have HB := Aside0.mk HA
    clear h1 HA
    by_cases h2 : l1.length ≤ 8
    · have h2' : decide ((l1.length : Int) ≤ 8) = true := by simp; omega
      have h2'' : decide (l1.length ≤ 8) = true := by simp; omega
      clear h2
      go_enter Try.func51, Try.ntmps51
      go_wp2_with (first | (go_at_call 69; refine (impl_within.calls _ _ _ _ _ H1.out).mono ?_; rintro e w' ⟨rfl, ⟨nd, rfl⟩⟩) | (go_at_call 98; refine (containsFunc_W _ _ (badW a0) A1 c1 l1 _ (Kd.C_drewN (Kd.C_alloc HR.out _) _) (ValidWalkers_pred _ _ a0 HB.out.1 HB.out.2 (by simp))).mono ?_; rintro e w' ⟨rfl, hb⟩; have HBB := Aside0.mk hb; clear hb))
      go_ret
      exact ⟨by simp [h2'], below_step (by repeat (first | exact Below.refl _ _ | apply pw_below_drewN | apply below_alloc)) HBB.out⟩
    · have h2' : decide ((l1.length : Int) ≤ 8) = false := by simp; omega
      have h2'' : decide (l1.length ≤ 8) = false := by simp; omega
      clear h2
      go_enter Try.func51, Try.ntmps51
      go_wp2_with (first | (go_at_call 69; refine (impl_within.calls _ _ _ _ _ H1.out).mono ?_; rintro e w' ⟨rfl, ⟨nd, rfl⟩⟩))
      go_ret
      exact ⟨by simp [h2'], by repeat (first | exact Below.refl _ _ | apply pw_below_drewN | apply below_alloc)⟩
  | false =>
    have H1 := Aside0.mk (show impl_within.f a0 1 60 = some false by rw [within_inR, h1])
    clear h1
    go_enter Try.func51, Try.ntmps51
    go_wp2_with (first | (go_at_call 69; refine (impl_within.calls _ _ _ _ _ H1.out).mono ?_; rintro e w' ⟨rfl, ⟨nd, rfl⟩⟩))
    go_ret
    exact ⟨by simp, by repeat (first | exact Below.refl _ _ | apply pw_below_drewN | apply below_alloc)⟩
end Go.Proofs.Ytmheflciiodhdaa.P
-- Written by wip/tools/mkprint.py of this repo, over the kit's print, out of the translation; Lean checks it.
namespace Go.Proofs.Ytmheflciiodhdaa.P
open Go.RowKit Go.Proofs.YtmheflciiodhdaaW.PrintWords Go.Proofs.YtmheflciiodhdaaW.PrintLast Go.Proofs.YtmheflciiodhdaaW.PrintMore
attribute [local go_sem] max2_int min2_int max_two min_two max_three min_three max_four min_four   -- for this text's walks alone
set_option linter.unusedVariables false
set_option linter.unusedSimpArgs false
/-! ### impl_Walker_until: function 95 -/
def impl_Walker_until.f (a0_0 : Int) (a0_1 : Int) (a0_2 : Int) (a0_3 : Int) (a0_4 : Int) (a0_5 : Int) (a1 : Int) : Option (Int) := if a1 < (wrap64 (a0_0)) then (some 0) else (if (wrap64 (a0_1)) = 0 then (none) else (some (wrap64 ((wrap64 (Int.tdiv (wrap64 (a1 - (wrap64 (a0_0)))) (wrap64 (a0_1)))) + 1))))
set_option maxHeartbeats 8000000 in
set_option maxRecDepth 100000 in
theorem impl_Walker_until.calls (a0_0 : Int) (a0_1 : Int) (a0_2 : Int) (a0_3 : Int) (a0_4 : Int) (a0_5 : Int) (a1 : Int) (r : Int) (w : World) (h : impl_Walker_until.f a0_0 a0_1 a0_2 a0_3 a0_4 a0_5 a1 = some r) :
    Calls Try.prog 95 #[.agg #[.int .i16 a0_0, .int .i16 a0_1, .int .i16 a0_2, .int .i16 a0_3, .int .i16 a0_4, .int .i8 a0_5], .int .i64 a1] w fun e w' => e = .returned (.int .i64 r) ∧ Below w.heap.size w w' := by
  have hu38 := Try.underlying38
  have HB := Aside0.mk (Below.refl w.heap.size w)
  have H : (if a1 < (wrap64 (a0_0)) then (some 0) else (if (wrap64 (a0_1)) = 0 then (none) else (some (wrap64 ((wrap64 (Int.tdiv (wrap64 (a1 - (wrap64 (a0_0)))) (wrap64 (a0_1)))) + 1))))) = some r := h
  clear h
  by_cases c3 : a1 < (wrap64 (a0_0))
  · rw [if_pos c3] at H
    have c3b0 : decide (a1 < (wrap64 (a0_0))) = true := decide_eq_true c3
    clear c3
    obtain rfl := Option.some.inj H
    go_enter Try.func95, Try.ntmps95
    go_wp2_with (first | ((with_reducible refine gate_dst (N := 2) rfl ?_); refine box_event ?hg (N := 2) ?hd (cs := #[.int .i16 a0_0, .int .i16 a0_1, .int .i16 a0_2, .int .i16 a0_3, .int .i16 a0_4, .int .i8 a0_5]) (t := 38) ?hr ?_; (case hd => rfl); (case hg => rfl); (case hr => first | (go_simp; done) | (go_simp; rfl)); intro gb240 hg w4 hbox hb; have n0_ := Aside0.mk (below_step (by repeat (first | (with_reducible first | exact HB.out | apply below_alloc | apply pw_below_drewN | apply below_drew1) | exact HB.out)) hb); have n1_ := Aside0.mk (hbox); have n2_ := Aside0.mk ((by rw [hg]; exact (below_size (by repeat (first | (with_reducible first | exact HB.out | apply below_alloc | apply pw_below_drewN | apply below_drew1) | exact HB.out))) : w.heap.size ≤ gb240)); have n3_ := Aside0.mk ((by rw [hg]; exact (below_size (by repeat (first | (with_reducible first | exact HB.out | apply below_alloc | apply pw_below_drewN | apply below_drew1) | exact HB.out))) : w.heap.size ≤ gb240)); clear HB; have HB := n0_; have BK240 := n1_; have GW240 := n2_; have GE240 := n3_; clear n0_ n1_ n2_ n3_; clear hb hbox hg; have hcz5_0 : w4.cell? ⟨gb240, 0, none⟩ = some (.int .i16 a0_0) := (blk_cell BK240.out 0).trans rfl; have hcz5_1 : w4.cell? ⟨gb240, 1, none⟩ = some (.int .i16 a0_1) := (blk_cell BK240.out 1).trans rfl; have hcz5_2 : w4.cell? ⟨gb240, 2, none⟩ = some (.int .i16 a0_2) := (blk_cell BK240.out 2).trans rfl; have hcz5_3 : w4.cell? ⟨gb240, 3, none⟩ = some (.int .i16 a0_3) := (blk_cell BK240.out 3).trans rfl; have hcz5_4 : w4.cell? ⟨gb240, 4, none⟩ = some (.int .i16 a0_4) := (blk_cell BK240.out 4).trans rfl; have hcz5_5 : w4.cell? ⟨gb240, 5, none⟩ = some (.int .i8 a0_5) := (blk_cell BK240.out 5).trans rfl; have hfz5_0 := blk_frozen BK240.out 0; have hfz5_1 := blk_frozen BK240.out 1; have hfz5_2 := blk_frozen BK240.out 2; have hfz5_3 := blk_frozen BK240.out 3; have hfz5_4 := blk_frozen BK240.out 4; have hfz5_5 := blk_frozen BK240.out 5))
    go_ret
    exact ⟨by first | rfl | (simp [errW_none, errW_some] <;> rfl) | (simp [*, errW_none, errW_some] <;> rfl), by repeat (first | (with_reducible first | exact HB.out | apply below_alloc | apply pw_below_drewN | apply below_drew1 | refine below_set ?_ GE240.out) | exact HB.out)⟩
  · rw [if_neg c3] at H
    have c3b0 : decide (a1 < (wrap64 (a0_0))) = false := decide_eq_false c3
    clear c3
    by_cases c6 : (wrap64 (a0_1)) = 0
    · rw [if_pos c6] at H
      exact absurd H (by simp)
    · rw [if_neg c6] at H
      have c6b0 : ((wrap64 (a0_1)) == 0) = false := beq_eq_false_iff_ne.mpr c6
      have c6b1 : ((wrap64 (a0_1)) != 0) = true := bne_iff_ne.mpr c6
      obtain rfl := Option.some.inj H
      go_enter Try.func95, Try.ntmps95
      go_wp2_with (first | ((with_reducible refine gate_dst (N := 2) rfl ?_); refine box_event ?hg (N := 2) ?hd (cs := #[.int .i16 a0_0, .int .i16 a0_1, .int .i16 a0_2, .int .i16 a0_3, .int .i16 a0_4, .int .i8 a0_5]) (t := 38) ?hr ?_; (case hd => rfl); (case hg => rfl); (case hr => first | (go_simp; done) | (go_simp; rfl)); intro gb240 hg w7 hbox hb; have n0_ := Aside0.mk (below_step (by repeat (first | (with_reducible first | exact HB.out | apply below_alloc | apply pw_below_drewN | apply below_drew1) | exact HB.out)) hb); have n1_ := Aside0.mk (hbox); have n2_ := Aside0.mk ((by rw [hg]; exact (below_size (by repeat (first | (with_reducible first | exact HB.out | apply below_alloc | apply pw_below_drewN | apply below_drew1) | exact HB.out))) : w.heap.size ≤ gb240)); have n3_ := Aside0.mk ((by rw [hg]; exact (below_size (by repeat (first | (with_reducible first | exact HB.out | apply below_alloc | apply pw_below_drewN | apply below_drew1) | exact HB.out))) : w.heap.size ≤ gb240)); clear HB; have HB := n0_; have BK240 := n1_; have GW240 := n2_; have GE240 := n3_; clear n0_ n1_ n2_ n3_; clear hb hbox hg; have hcz8_0 : w7.cell? ⟨gb240, 0, none⟩ = some (.int .i16 a0_0) := (blk_cell BK240.out 0).trans rfl; have hcz8_1 : w7.cell? ⟨gb240, 1, none⟩ = some (.int .i16 a0_1) := (blk_cell BK240.out 1).trans rfl; have hcz8_2 : w7.cell? ⟨gb240, 2, none⟩ = some (.int .i16 a0_2) := (blk_cell BK240.out 2).trans rfl; have hcz8_3 : w7.cell? ⟨gb240, 3, none⟩ = some (.int .i16 a0_3) := (blk_cell BK240.out 3).trans rfl; have hcz8_4 : w7.cell? ⟨gb240, 4, none⟩ = some (.int .i16 a0_4) := (blk_cell BK240.out 4).trans rfl; have hcz8_5 : w7.cell? ⟨gb240, 5, none⟩ = some (.int .i8 a0_5) := (blk_cell BK240.out 5).trans rfl; have hfz8_0 := blk_frozen BK240.out 0; have hfz8_1 := blk_frozen BK240.out 1; have hfz8_2 := blk_frozen BK240.out 2; have hfz8_3 := blk_frozen BK240.out 3; have hfz8_4 := blk_frozen BK240.out 4; have hfz8_5 := blk_frozen BK240.out 5))
      go_ret
      exact ⟨by first | rfl | (simp [errW_none, errW_some] <;> rfl) | (simp [*, errW_none, errW_some] <;> rfl), by repeat (first | (with_reducible first | exact HB.out | apply below_alloc | apply pw_below_drewN | apply below_drew1 | refine below_set ?_ GE240.out) | exact HB.out)⟩
end Go.Proofs.Ytmheflciiodhdaa.P
-- Written by wip/tools/mkprint.py of this repo, over the kit's print, out of the translation; Lean checks it.
namespace Go.Proofs.Ytmheflciiodhdaa.P
open Go.RowKit Go.Proofs.YtmheflciiodhdaaW.PrintWords Go.Proofs.YtmheflciiodhdaaW.PrintLast Go.Proofs.YtmheflciiodhdaaW.PrintMore
attribute [local go_sem] max2_int min2_int max_two min_two max_three min_three max_four min_four   -- for this text's walks alone
set_option linter.unusedVariables false
set_option linter.unusedSimpArgs false
/-! ### impl_Walker_between: function 81 -/
def impl_Walker_between.f (a0_0 : Int) (a0_1 : Int) (a0_2 : Int) (a0_3 : Int) (a0_4 : Int) (a0_5 : Int) (a1 : Int) (a2 : Int) : Option (Int) := (impl_Walker_until.f a0_0 a0_1 a0_2 a0_3 a0_4 a0_5 a2).bind fun t242 => ((impl_Walker_until.f a0_0 a0_1 a0_2 a0_3 a0_4 a0_5 (wrap64 (a1 - 1))).bind fun t243 => (some (wrap64 (t242 - t243))))
def impl_Walker_between.T1 : Bool × List (List Nat × List Nat) := (true, [([], []), ([], []), ([0, 1], [0, 1]), ([], []), ([], []), ([4], [4]), ([3, 5, 2], [3, 5]), ([2, 6], [2, 6]), ([7, 6, 0, 1, 2, 3, 4, 5, 6, 7], [7])])
def impl_Walker_between.B1 : List Nat := [0, 0, 3, 0, 0, 16, 63, 127, 255]
theorem impl_Walker_between.tab1 : rtab .any (opsOf Try.f81 1) = impl_Walker_between.T1 := by kernel_rfl
theorem impl_Walker_between.bits1 : waitsOk impl_Walker_between.T1.2 impl_Walker_between.B1 = true := by kernel_rfl
set_option maxHeartbeats 8000000 in
set_option maxRecDepth 100000 in
theorem impl_Walker_between.calls (a0_0 : Int) (a0_1 : Int) (a0_2 : Int) (a0_3 : Int) (a0_4 : Int) (a0_5 : Int) (a1 : Int) (a2 : Int) (r : Int) (w : World) (h : impl_Walker_between.f a0_0 a0_1 a0_2 a0_3 a0_4 a0_5 a1 a2 = some r) :
    Calls Try.prog 81 #[.agg #[.int .i16 a0_0, .int .i16 a0_1, .int .i16 a0_2, .int .i16 a0_3, .int .i16 a0_4, .int .i8 a0_5], .int .i64 a1, .int .i64 a2] w fun e w' => e = .returned (.int .i64 r) ∧ Below w.heap.size w w' := by
  have hu38 := Try.underlying38
  have HB := Aside0.mk (Below.refl w.heap.size w)
  have H : ((impl_Walker_until.f a0_0 a0_1 a0_2 a0_3 a0_4 a0_5 a2).bind fun t242 => ((impl_Walker_until.f a0_0 a0_1 a0_2 a0_3 a0_4 a0_5 (wrap64 (a1 - 1))).bind fun t243 => (some (wrap64 (t242 - t243))))) = some r := h
  clear h
  replace H := Option.bind_eq_some_iff.mp H
  obtain ⟨t242, A40, H⟩ := H
  replace H : ((impl_Walker_until.f a0_0 a0_1 a0_2 a0_3 a0_4 a0_5 (wrap64 (a1 - 1))).bind fun t243 => (some (wrap64 (t242 - t243)))) = some r := H
  have A4 := Aside0.mk A40
  clear A40
  replace H := Option.bind_eq_some_iff.mp H
  obtain ⟨t243, A50, H⟩ := H
  replace H : (some (wrap64 (t242 - t243))) = some r := H
  have A5 := Aside0.mk A50
  clear A50
  obtain rfl := Option.some.inj H
  go_enter Try.func81, Try.ntmps81
  try go_wp2_with (first | ((with_reducible refine gate_dst (N := 3) rfl ?_); refine box_event ?hg (N := 3) ?hd (cs := #[.int .i16 a0_0, .int .i16 a0_1, .int .i16 a0_2, .int .i16 a0_3, .int .i16 a0_4, .int .i8 a0_5]) (t := 38) ?hr ?_; (case hd => rfl); (case hg => rfl); (case hr => first | (go_simp; done) | (go_simp; rfl)); intro gb241 hg w6 hbox hb; have n0_ := Aside0.mk (below_step (by repeat (first | (with_reducible first | exact HB.out | apply below_alloc | apply pw_below_drewN | apply below_drew1) | exact HB.out)) hb); have n1_ := Aside0.mk (hbox); have n2_ := Aside0.mk ((by rw [hg]; exact (below_size (by repeat (first | (with_reducible first | exact HB.out | apply below_alloc | apply pw_below_drewN | apply below_drew1) | exact HB.out))) : w.heap.size ≤ gb241)); have n3_ := Aside0.mk ((by rw [hg]; exact (below_size (by repeat (first | (with_reducible first | exact HB.out | apply below_alloc | apply pw_below_drewN | apply below_drew1) | exact HB.out))) : w.heap.size ≤ gb241)); clear HB; have HB := n0_; have BK241 := n1_; have GW241 := n2_; have GE241 := n3_; clear n0_ n1_ n2_ n3_; clear hb hbox hg))
  have n0_ := Aside0.mk (blk_drew BK241.out)
  have n1_ := Aside0.mk (below_drew1 HB.out)
  clear BK241
  clear HB
  have BK241 := n0_
  have HB := n1_
  clear n0_ n1_
  refine start_ (n := 9) (S := fun w' => w'.cell? ⟨gb241, 0, none⟩ = some (.int .i16 a0_0) ∧ w'.cell? ⟨gb241, 1, none⟩ = some (.int .i16 a0_1) ∧ w'.cell? ⟨gb241, 2, none⟩ = some (.int .i16 a0_2) ∧ w'.cell? ⟨gb241, 3, none⟩ = some (.int .i16 a0_3) ∧ w'.cell? ⟨gb241, 4, none⟩ = some (.int .i16 a0_4) ∧ w'.cell? ⟨gb241, 5, none⟩ = some (.int .i8 a0_5)) (ds := []) #[false, false, false, false, false, false, false, false, false] (by kernel_rfl) rfl rfl ⟨(blk_cell BK241.out 0).trans rfl, (blk_cell BK241.out 1).trans rfl, (blk_cell BK241.out 2).trans rfl, (blk_cell BK241.out 3).trans rfl, (blk_cell BK241.out 4).trans rfl, (blk_cell BK241.out 5).trans rfl⟩ (fun hHeld => ?_); refine with_tabW impl_Walker_between.tab1 impl_Walker_between.bits1 (fun HT_ HW_ => ?_)
  generalize w6.drew = w7 at BK241 HB hHeld ⊢
  refine pure_ (i := 1) (N := some 8) (v := ?_) (a' := ?_) #[false, true, false, false, false, false, false, false, false] rfl rfl (any_of HT_.out (by kernel_rfl)) (fun _ _ _ h => h) (Or.inl ⟨by rfl, ?_⟩) ?_ ?_
  rotate_left
  · intro w'
    go_simp
    with_reducible rfl
  rotate_left
  · simp only [Act.put, List.setIfInBounds_toArray, List.set_cons_zero, List.set_cons_succ, i64_w, i32_w]
    rfl
  refine pure_ (i := 4) (N := some 11) (v := ?_) (a' := ?_) #[false, true, false, false, true, false, false, false, false] rfl rfl (any_of HT_.out (by kernel_rfl)) (fun _ _ _ h => h) (Or.inl ⟨by rfl, ?_⟩) ?_ ?_
  rotate_left
  · intro w'
    go_simp
    with_reducible rfl
  rotate_left
  · simp only [Act.put, List.setIfInBounds_toArray, List.set_cons_zero, List.set_cons_succ, i64_w, i32_w]
    rfl
  refine pure_ (i := 5) (N := some 12) (v := ?_) (a' := ?_) #[false, true, false, false, true, true, false, false, false] rfl rfl (any_of HT_.out (by kernel_rfl)) (fun _ _ _ h => h) (Or.inl ⟨by rfl, ?_⟩) ?_ ?_
  rotate_left
  · intro w'
    go_simp
    with_reducible rfl
  rotate_left
  · simp only [Act.put, List.setIfInBounds_toArray, List.set_cons_zero, List.set_cons_succ, i64_w, i32_w]
    rfl
  refine take_ (i := 0) (N := some 7) (v := ?_) (a' := ?_) #[true, true, false, false, true, true, false, false, false] rfl rfl (take_ofW HT_.out HW_.out (by kernel_rfl)) (fun _ _ _ h => h) (Or.inl ⟨by rfl, ?_⟩) hHeld ?_ ?_
  rotate_left
  · rintro w' ⟨s0, s1, s2, s3, s4, s5⟩
    go_simp
    with_reducible rfl
  rotate_left
  · simp only [Act.put, List.setIfInBounds_toArray, List.set_cons_zero, List.set_cons_succ, i64_w, i32_w]
    rfl
  refine take_ (i := 3) (N := some 10) (v := ?_) (a' := ?_) #[true, true, false, true, true, true, false, false, false] rfl rfl (take_ofW HT_.out HW_.out (by kernel_rfl)) (fun _ _ _ h => h) (Or.inl ⟨by rfl, ?_⟩) hHeld ?_ ?_
  rotate_left
  · rintro w' ⟨s0, s1, s2, s3, s4, s5⟩
    go_simp
    with_reducible rfl
  rotate_left
  · simp only [Act.put, List.setIfInBounds_toArray, List.set_cons_zero, List.set_cons_succ, i64_w, i32_w]
    rfl
  refine one_ (i := 2) (N := some 9) #[true, true, true, true, true, true, false, false, false] rfl rfl (one_of HT_.out (by kernel_rfl)) (by decide) (fun K hK => ?_)
  refine goes_ Try.func95 (by kernel_rfl) rfl #[.agg #[.int .i16 a0_0, .int .i16 a0_1, .int .i16 a0_2, .int .i16 a0_3, .int .i16 a0_4, .int .i8 a0_5], .int .i64 a2] (by rfl) rfl rfl (by (try simp only [List.map_toArray, List.map_cons, List.map_nil]); first | done | rfl | (simp only [List.length_drop, List.length_take]; rfl)) ?_
  with_reducible refine (impl_Walker_until.calls a0_0 a0_1 a0_2 a0_3 a0_4 a0_5 a2 t242 _ A4.out).mono ?_
  rintro e w8 ⟨rfl, hb⟩
  refine ⟨_, rfl, ?_⟩
  have n0_ := Aside0.mk (blk_below (g := gb241) (o := .cells #[.int .i16 a0_0, .int .i16 a0_1, .int .i16 a0_2, .int .i16 a0_3, .int .i16 a0_4, .int .i8 a0_5] 38 (0, 0)) (by (with_reducible repeat (first | refine blk_drewN ?_ _ | refine blk_drew ?_ | refine blk_alloc ?_ _)); exact BK241.out) hb)
  have n1_ := Aside0.mk (below_step (by repeat (first | (with_reducible first | exact HB.out | apply below_alloc | apply pw_below_drewN | apply below_drew1 | refine below_set ?_ GE241.out) | exact HB.out)) hb)
  clear BK241
  clear HB
  have BK241 := n0_
  have HB := n1_
  clear n0_ n1_
  (try clear hb)
  (try clear hb2)
  (try clear hk)
  (try clear hi)
  refine hK.out _ _ ⟨(blk_cell BK241.out 0).trans rfl, (blk_cell BK241.out 1).trans rfl, (blk_cell BK241.out 2).trans rfl, (blk_cell BK241.out 3).trans rfl, (blk_cell BK241.out 4).trans rfl, (blk_cell BK241.out 5).trans rfl⟩ (fun hHeld => ?_)
  clear hK K
  refine norm_ (a' := ?_) ?_ ?_
  rotate_left
  · show Act.put _ (some 9) _ = _
    simp only [Act.put, List.setIfInBounds_toArray, List.set_cons_zero, List.set_cons_succ, i64_w, i32_w]
    rfl
  refine one_ (i := 6) (N := some 13) #[true, true, true, true, true, true, true, false, false] rfl rfl (one_of HT_.out (by kernel_rfl)) (by decide) (fun K hK => ?_)
  refine goes_ Try.func95 (by kernel_rfl) rfl #[.agg #[.int .i16 a0_0, .int .i16 a0_1, .int .i16 a0_2, .int .i16 a0_3, .int .i16 a0_4, .int .i8 a0_5], .int .i64 (wrap64 (a1 - 1))] (by rfl) rfl rfl (by (try simp only [List.map_toArray, List.map_cons, List.map_nil]); first | done | rfl | (simp only [List.length_drop, List.length_take]; rfl)) ?_
  with_reducible refine (impl_Walker_until.calls a0_0 a0_1 a0_2 a0_3 a0_4 a0_5 (wrap64 (a1 - 1)) t243 _ A5.out).mono ?_
  rintro e w9 ⟨rfl, hb⟩
  refine ⟨_, rfl, ?_⟩
  have n0_ := Aside0.mk (blk_below (g := gb241) (o := .cells #[.int .i16 a0_0, .int .i16 a0_1, .int .i16 a0_2, .int .i16 a0_3, .int .i16 a0_4, .int .i8 a0_5] 38 (0, 0)) (by (with_reducible repeat (first | refine blk_drewN ?_ _ | refine blk_drew ?_ | refine blk_alloc ?_ _)); exact BK241.out) hb)
  have n1_ := Aside0.mk (below_step (by repeat (first | (with_reducible first | exact HB.out | apply below_alloc | apply pw_below_drewN | apply below_drew1 | refine below_set ?_ GE241.out) | exact HB.out)) hb)
  clear BK241
  clear HB
  have BK241 := n0_
  have HB := n1_
  clear n0_ n1_
  (try clear hb)
  (try clear hb2)
  (try clear hk)
  (try clear hi)
  refine hK.out _ _ ⟨(blk_cell BK241.out 0).trans rfl, (blk_cell BK241.out 1).trans rfl, (blk_cell BK241.out 2).trans rfl, (blk_cell BK241.out 3).trans rfl, (blk_cell BK241.out 4).trans rfl, (blk_cell BK241.out 5).trans rfl⟩ (fun hHeld => ?_)
  clear hK K
  refine norm_ (a' := ?_) ?_ ?_
  rotate_left
  · show Act.put _ (some 13) _ = _
    simp only [Act.put, List.setIfInBounds_toArray, List.set_cons_zero, List.set_cons_succ, i64_w, i32_w]
    rfl
  refine pure_ (i := 7) (N := some 14) (v := ?_) (a' := ?_) #[true, true, true, true, true, true, true, true, false] rfl rfl (any_of HT_.out (by kernel_rfl)) (fun _ _ _ h => h) (Or.inl ⟨by rfl, ?_⟩) ?_ ?_
  rotate_left
  · intro w'
    go_simp
    with_reducible rfl
  rotate_left
  · simp only [Act.put, List.setIfInBounds_toArray, List.set_cons_zero, List.set_cons_succ, i64_w, i32_w]
    rfl
  refine pure_ (i := 8) (N := some 6) (v := ?_) (a' := ?_) #[true, true, true, true, true, true, true, true, true] rfl rfl (any_of HT_.out (by kernel_rfl)) (fun _ _ _ h => h) (Or.inl ⟨by rfl, ?_⟩) ?_ ?_
  rotate_left
  · intro w'
    go_simp
    with_reducible rfl
  rotate_left
  · simp only [Act.put, List.setIfInBounds_toArray, List.set_cons_zero, List.set_cons_succ, i64_w, i32_w]
    rfl
  refine done_ (done_of HT_.out (by kernel_rfl)) ?_
  try go_wp2
  go_ret
  exact ⟨by first | rfl | (simp [errW_none, errW_some] <;> rfl) | (simp [*, errW_none, errW_some] <;> rfl), by repeat (first | (with_reducible first | exact HB.out | apply below_alloc | apply pw_below_drewN | apply below_drew1 | refine below_set ?_ GE241.out) | exact HB.out)⟩
end Go.Proofs.Ytmheflciiodhdaa.P
-- Written by wip/tools/mkprint.py of this repo, over the kit's print, out of the translation; Lean checks it.
namespace Go.Proofs.Ytmheflciiodhdaa.P
open Go.RowKit Go.Proofs.YtmheflciiodhdaaW.PrintWords Go.Proofs.YtmheflciiodhdaaW.PrintLast Go.Proofs.YtmheflciiodhdaaW.PrintMore
attribute [local go_sem] max2_int min2_int max_two min_two max_three min_three max_four min_four   -- for this text's walks alone
set_option linter.unusedVariables false
set_option linter.unusedSimpArgs false
/-! ### impl_codeOf: function 67 -/
def impl_codeOf.f (a0 : Bool) (a1 : Bool) : Option (Int) := if a0 = true then (if a1 = true then (some 0) else (some 2)) else (some 1)
set_option maxHeartbeats 8000000 in
set_option maxRecDepth 100000 in
theorem impl_codeOf.calls (a0 : Bool) (a1 : Bool) (r : Int) (w : World) (h : impl_codeOf.f a0 a1 = some r) :
    Calls Try.prog 67 #[.bool a0, .bool a1] w fun e w' => e = .returned (.int .i64 r) ∧ Drawn0 w w' := by
  have H : (if a0 = true then (if a1 = true then (some 0) else (some 2)) else (some 1)) = some r := h
  clear h
  by_cases c3 : a0 = true
  · subst c3
    have H1 : (if a1 = true then (some 0) else (some 2)) = some r := by rw [if_pos rfl] at H; exact H
    clear H
    have H := H1
    clear H1
    by_cases c4 : a1 = true
    · subst c4
      have H1 : (some 0) = some r := by rw [if_pos rfl] at H; exact H
      clear H
      have H := H1
      clear H1
      obtain rfl := Option.some.inj H
      go_enter Try.func67, Try.ntmps67
      go_wp2
      go_ret
      exact ⟨by first | rfl | (simp; done) | (simp [*]; done), by repeat (first | exact Drawn0.refl _ | apply Drawn0.step)⟩
    · replace c4 := Bool.eq_false_iff.mpr c4
      subst c4
      have H1 : (some 2) = some r := by rw [if_neg (show ¬ (false = true) by decide)] at H; exact H
      clear H
      have H := H1
      clear H1
      obtain rfl := Option.some.inj H
      go_enter Try.func67, Try.ntmps67
      go_wp2
      go_ret
      exact ⟨by first | rfl | (simp; done) | (simp [*]; done), by repeat (first | exact Drawn0.refl _ | apply Drawn0.step)⟩
  · replace c3 := Bool.eq_false_iff.mpr c3
    subst c3
    have H1 : (some 1) = some r := by rw [if_neg (show ¬ (false = true) by decide)] at H; exact H
    clear H
    have H := H1
    clear H1
    obtain rfl := Option.some.inj H
    go_enter Try.func67, Try.ntmps67
    go_wp2
    go_ret
    exact ⟨by first | rfl | (simp; done) | (simp [*]; done), by repeat (first | exact Drawn0.refl _ | apply Drawn0.step)⟩
end Go.Proofs.Ytmheflciiodhdaa.P
-- Written by wip/tools/mkprint.py of this repo, over the kit's print, out of the translation; Lean checks it.
namespace Go.Proofs.Ytmheflciiodhdaa.P
open Go.RowKit Go.Proofs.YtmheflciiodhdaaW.PrintWords Go.Proofs.YtmheflciiodhdaaW.PrintLast Go.Proofs.YtmheflciiodhdaaW.PrintMore
attribute [local go_sem] max2_int min2_int max_two min_two max_three min_three max_four min_four   -- for this text's walks alone
set_option linter.unusedVariables false
set_option linter.unusedSimpArgs false
/-! ### impl_isDay: function 79 -/
def impl_isDay.f (l0 : List Int) : Option (Bool) := (impl_allWithin.f l0 0 10000).bind fun t239 => (some t239)
set_option maxHeartbeats 8000000 in
set_option maxRecDepth 100000 in
theorem impl_isDay.calls (A0 : Option Addr) (c0 : Nat) (l0 : List Int) (r : Bool) (w : World) (hr0 : Kd.C (Kd.int .i64) w A0 l0.length l0) (hc0 : l0.length ≤ c0) (h : impl_isDay.f l0 = some r) :
    Calls Try.prog 79 #[.slice A0 l0.length c0] w fun e w' => e = .returned (.bool r) ∧ Below w.heap.size w w' := by
  have HR0 := Aside0.mk hr0
  have HC0 := Aside0.mk hc0
  clear hr0 hc0
  have HB := Aside0.mk (Below.refl w.heap.size w)
  have H : ((impl_allWithin.f l0 0 10000).bind fun t239 => (some t239)) = some r := h
  clear h
  replace H := Option.bind_eq_some_iff.mp H
  obtain ⟨t239, A20, H⟩ := H
  replace H : (some t239) = some r := H
  have A2 := Aside0.mk A20
  clear A20
  obtain rfl := Option.some.inj H
  go_enter Try.func79, Try.ntmps79
  go_wp2_with (first | ((with_reducible refine gate_callee (f := 112) rfl ?_); refine goesL_ (some 4) rfl rfl Try.func112 (by kernel_rfl) rfl #[.slice A0 l0.length c0, .int .i64 0, .int .i64 10000] rfl (by (try simp only [List.map_toArray, List.map_cons, List.map_nil]); first | done | rfl | (simp only [List.length_drop, List.length_take]; rfl)) ?_; (with_reducible refine (impl_allWithin.calls _ _ l0 0 10000 t239 _ ?side1 ?side2 A2.out).mono ?_); (case side1 => repeat (first | exact HR0.out | (with_reducible refine Kd.C_alloc ?_ _) | (with_reducible refine Kd.C_drewN ?_ _) | (with_reducible refine Kd.C_drew ?_))); (case side2 => exact HC0.out); rintro e w3 ⟨rfl, hb⟩; refine ⟨_, rfl, ?_⟩; have n0_ := Aside0.mk (below_step (by repeat (first | (with_reducible first | exact HB.out | apply below_alloc | apply pw_below_drewN | apply below_drew1) | exact HB.out)) hb); clear HB; have HB := n0_; clear n0_; (try clear hb); (try clear hb2); (try clear hk); (try clear hi)))
  go_ret
  exact ⟨by first | rfl | (simp [errW_none, errW_some] <;> rfl) | (simp [*, errW_none, errW_some] <;> rfl), by repeat (first | (with_reducible first | exact HB.out | apply below_alloc | apply pw_below_drewN | apply below_drew1) | exact HB.out)⟩
end Go.Proofs.Ytmheflciiodhdaa.P
-- Written by wip/tools/mkprint.py of this repo, over the kit's print, out of the translation; Lean checks it.
namespace Go.Proofs.Ytmheflciiodhdaa.P
open Go.RowKit Go.Proofs.YtmheflciiodhdaaW.PrintWords Go.Proofs.YtmheflciiodhdaaW.PrintLast Go.Proofs.YtmheflciiodhdaaW.PrintMore
attribute [local go_sem] max2_int min2_int max_two min_two max_three min_three max_four min_four   -- for this text's walks alone
set_option linter.unusedVariables false
set_option linter.unusedSimpArgs false
/-! ### impl_rowOk: function 68 -/
def impl_rowOk.f (l0 : List Int) (l1 : List (S38)) : Option (Bool) := (impl_ValidRow.f l0).bind fun t231 => (if t231 = true then ((impl_ValidWalkers.f (l0.length : Int) l1).bind fun t232 => (some t232)) else (some false))
set_option maxHeartbeats 8000000 in
set_option maxRecDepth 100000 in
theorem impl_rowOk.calls (A0 : Option Addr) (c0 : Nat) (l0 : List Int) (A1 : Option Addr) (c1 : Nat) (l1 : List (S38)) (r : Bool) (w : World) (hr0 : Kd.C (Kd.int .u8) w A0 l0.length l0) (hc0 : l0.length ≤ c0) (hr1 : Kd.C k38 w A1 l1.length l1) (hc1 : l1.length ≤ c1) (h : impl_rowOk.f l0 l1 = some r) :
    Calls Try.prog 68 #[.slice A0 l0.length c0, .slice A1 l1.length c1] w fun e w' => e = .returned (.bool r) ∧ Below w.heap.size w w' := by
  have HR0 := Aside0.mk hr0
  have HC0 := Aside0.mk hc0
  clear hr0 hc0
  have HR1 := Aside0.mk hr1
  have HC1 := Aside0.mk hc1
  clear hr1 hc1
  have HB := Aside0.mk (Below.refl w.heap.size w)
  have H : ((impl_ValidRow.f l0).bind fun t231 => (if t231 = true then ((impl_ValidWalkers.f (l0.length : Int) l1).bind fun t232 => (some t232)) else (some false))) = some r := h
  clear h
  replace H := Option.bind_eq_some_iff.mp H
  obtain ⟨t231, A30, H⟩ := H
  replace H : (if t231 = true then ((impl_ValidWalkers.f (l0.length : Int) l1).bind fun t232 => (some t232)) else (some false)) = some r := H
  have A3 := Aside0.mk A30
  clear A30
  by_cases c4 : t231 = true
  · subst c4
    have H1 : ((impl_ValidWalkers.f (l0.length : Int) l1).bind fun t232 => (some t232)) = some r := by rw [if_pos rfl] at H; exact H
    clear H
    have H := H1
    clear H1
    replace H := Option.bind_eq_some_iff.mp H
    obtain ⟨t232, A50, H⟩ := H
    replace H : (some t232) = some r := H
    have A5 := Aside0.mk A50
    clear A50
    obtain rfl := Option.some.inj H
    go_enter Try.func68, Try.ntmps68
    go_wp2_with (first | ((with_reducible refine gate_callee (f := 50) rfl ?_); refine goesL_ (some 6) rfl rfl Try.func50 (by kernel_rfl) rfl #[.slice A0 l0.length c0] rfl (by (try simp only [List.map_toArray, List.map_cons, List.map_nil]); first | done | rfl | (simp only [List.length_drop, List.length_take]; rfl)) ?_; (with_reducible refine (impl_ValidRow.calls _ _ l0 true _ ?side1 ?side2 A3.out).mono ?_); (case side1 => repeat (first | exact HR0.out | (with_reducible refine Kd.C_alloc ?_ _) | (with_reducible refine Kd.C_drewN ?_ _) | (with_reducible refine Kd.C_drew ?_))); (case side2 => exact HC0.out); rintro e w' ⟨rfl, ⟨nd, rfl⟩⟩; refine ⟨_, rfl, ?_⟩) | (go_at_call 51; (with_reducible refine (impl_ValidWalkers.calls (l0.length : Int) _ _ l1 t232 _ ?side1 ?side2 A5.out).mono ?_); (case side1 => repeat (first | exact HR1.out | (with_reducible refine Kd.C_alloc ?_ _) | (with_reducible refine Kd.C_drewN ?_ _) | (with_reducible refine Kd.C_drew ?_))); (case side2 => exact HC1.out); rintro e w6 ⟨rfl, hb⟩; have n0_ := Aside0.mk (below_step (by repeat (first | (with_reducible first | exact HB.out | apply below_alloc | apply pw_below_drewN | apply below_drew1) | exact HB.out)) hb); clear HB; have HB := n0_; clear n0_; (try clear hb); (try clear hb2); (try clear hk); (try clear hi)))
    go_ret
    exact ⟨by first | rfl | (simp [errW_none, errW_some] <;> rfl) | (simp [*, errW_none, errW_some] <;> rfl), by repeat (first | (with_reducible first | exact HB.out | apply below_alloc | apply pw_below_drewN | apply below_drew1) | exact HB.out)⟩
  · replace c4 := Bool.eq_false_iff.mpr c4
    subst c4
    have H1 : (some false) = some r := by rw [if_neg (show ¬ (false = true) by decide)] at H; exact H
    clear H
    have H := H1
    clear H1
    obtain rfl := Option.some.inj H
    go_enter Try.func68, Try.ntmps68
    go_wp2_with (first | ((with_reducible refine gate_callee (f := 50) rfl ?_); refine goesL_ (some 6) rfl rfl Try.func50 (by kernel_rfl) rfl #[.slice A0 l0.length c0] rfl (by (try simp only [List.map_toArray, List.map_cons, List.map_nil]); first | done | rfl | (simp only [List.length_drop, List.length_take]; rfl)) ?_; (with_reducible refine (impl_ValidRow.calls _ _ l0 false _ ?side1 ?side2 A3.out).mono ?_); (case side1 => repeat (first | exact HR0.out | (with_reducible refine Kd.C_alloc ?_ _) | (with_reducible refine Kd.C_drewN ?_ _) | (with_reducible refine Kd.C_drew ?_))); (case side2 => exact HC0.out); rintro e w' ⟨rfl, ⟨nd, rfl⟩⟩; refine ⟨_, rfl, ?_⟩))
    go_ret
    exact ⟨by first | rfl | (simp [errW_none, errW_some] <;> rfl) | (simp [*, errW_none, errW_some] <;> rfl), by repeat (first | (with_reducible first | exact HB.out | apply below_alloc | apply pw_below_drewN | apply below_drew1) | exact HB.out)⟩
end Go.Proofs.Ytmheflciiodhdaa.P
-- Written by wip/tools/mkprint.py of this repo, over the kit's print, out of the translation; Lean checks it.
namespace Go.Proofs.Ytmheflciiodhdaa.P
open Go.RowKit Go.Proofs.YtmheflciiodhdaaW.PrintWords Go.Proofs.YtmheflciiodhdaaW.PrintLast Go.Proofs.YtmheflciiodhdaaW.PrintMore
attribute [local go_sem] max2_int min2_int max_two min_two max_three min_three max_four min_four   -- for this text's walks alone
set_option linter.unusedVariables false
set_option linter.unusedSimpArgs false
/-! ### impl_Walker_visits: function 104 -/
def impl_Walker_visits.l0 : Nat → Int → List Int → Int → Int → Int → Int → Int → Int → Int → Int → Option (List Int)
  | 0, _, _, _, _, _, _, _, _, _, _ => none
  | k + 1, x1, x5, x11, x12, x234000, x234001, x234002, x234003, x234004, x234005 => if x12 < x11 then (if x1 = 0 then (none) else (if 0 ≤ (Int.tmod (wrap64 ((wrap64 (x234002)) + (wrap64 (x12 * (wrap64 (x234003)))))) x1) then (if (Int.tmod (wrap64 ((wrap64 (x234002)) + (wrap64 (x12 * (wrap64 (x234003)))))) x1) < (x5.length : Int) then (impl_Walker_visits.l0 k x1 (x5.set ((Int.tmod (wrap64 ((wrap64 (x234002)) + (wrap64 (x12 * (wrap64 (x234003)))))) x1) : Int).toNat (wrap64 ((rd x5 (Int.tmod (wrap64 ((wrap64 (x234002)) + (wrap64 (x12 * (wrap64 (x234003)))))) x1)) + 1))) x11 (wrap64 (x12 + 1)) x234000 x234001 x234002 x234003 x234004 x234005) else (none)) else (none))) else (some x5)
def impl_Walker_visits.f (k : Nat) (a0_0 : Int) (a0_1 : Int) (a0_2 : Int) (a0_3 : Int) (a0_4 : Int) (a0_5 : Int) (a1 : Int) : Option (List Int) := if 0 ≤ a1 then (if (a1 : Int).toNat ≤ 35184372088832 then (impl_Walker_visits.l0 k a1 (List.replicate (a1 : Int).toNat 0) (wrap64 (a0_4)) 0 a0_0 a0_1 a0_2 a0_3 a0_4 a0_5) else (none)) else (none)
theorem impl_Walker_visits.mono_l : ∀ k, (∀ y0 y1 y2 y3 y4 y5 y6 y7 y8 y9, LeO (impl_Walker_visits.l0 k y0 y1 y2 y3 y4 y5 y6 y7 y8 y9) (impl_Walker_visits.l0 (k + 1) y0 y1 y2 y3 y4 y5 y6 y7 y8 y9))
  | 0 => fun _ _ _ _ _ _ _ _ _ _ r h => by simp [impl_Walker_visits.l0] at h
  | k + 1 => by
    have ih0 := impl_Walker_visits.mono_l k
    · intro y0 y1 y2 y3 y4 y5 y6 y7 y8 y9
      unfold impl_Walker_visits.l0
      repeat' first
      | (with_reducible exact ih0 _ _ _ _ _ _ _ _ _ _)
      | (with_reducible exact LeO.refl _)
      | (with_reducible exact LeO.none _)
      | (with_reducible refine LeO.ite ?_ ?_)
      | (with_reducible refine LeO.bind ?_ (fun _ => ?_))
      | exact ih0 _ _ _ _ _ _ _ _ _ _
      | exact LeO.none _
      | refine LeO.ite ?_ ?_
      | refine LeO.bind ?_ (fun _ => ?_)
theorem impl_Walker_visits.mono : ∀ a0 a1 a2 a3 a4 a5 a6 k, LeO (impl_Walker_visits.f k a0 a1 a2 a3 a4 a5 a6) (impl_Walker_visits.f (k + 1) a0 a1 a2 a3 a4 a5 a6) := by
  intro a0 a1 a2 a3 a4 a5 a6 k
  have ih0 := impl_Walker_visits.mono_l k
  unfold impl_Walker_visits.f
  repeat' first
      | (with_reducible exact ih0 _ _ _ _ _ _ _ _ _ _)
      | (with_reducible exact LeO.refl _)
      | (with_reducible exact LeO.none _)
      | (with_reducible refine LeO.ite ?_ ?_)
      | (with_reducible refine LeO.bind ?_ (fun _ => ?_))
      | exact ih0 _ _ _ _ _ _ _ _ _ _
      | exact LeO.none _
      | refine LeO.ite ?_ ?_
      | refine LeO.bind ?_ (fun _ => ?_)
set_option maxHeartbeats 8000000 in
set_option maxRecDepth 100000 in
theorem impl_Walker_visits.calls (k : Nat) (a0_0 : Int) (a0_1 : Int) (a0_2 : Int) (a0_3 : Int) (a0_4 : Int) (a0_5 : Int) (a1 : Int) (r : List Int) (w : World) (h : impl_Walker_visits.f k a0_0 a0_1 a0_2 a0_3 a0_4 a0_5 a1 = some r) :
    Calls Try.prog 104 #[.agg #[.int .i16 a0_0, .int .i16 a0_1, .int .i16 a0_2, .int .i16 a0_3, .int .i16 a0_4, .int .i8 a0_5], .int .i64 a1] w fun e w' => ∃ v0_ : Value, e = .returned (v0_) ∧ Kd.R (Kd.int .i64) 2 w' w.heap.size (fun _ => True) v0_ r ∧ Below w.heap.size w w' := by
  have hu38 := Try.underlying38
  have HB := Aside0.mk (Below.refl w.heap.size w)
  have H : (if 0 ≤ a1 then (if (a1 : Int).toNat ≤ 35184372088832 then (impl_Walker_visits.l0 k a1 (List.replicate (a1 : Int).toNat 0) (wrap64 (a0_4)) 0 a0_0 a0_1 a0_2 a0_3 a0_4 a0_5) else (none)) else (none)) = some r := h
  clear h
  by_cases c3 : 0 ≤ a1
  · rw [if_pos c3] at H
    have c3b0 := eq_true c3
    have c3b1 : decide (0 ≤ a1) = true := decide_eq_true c3
    clear c3
    by_cases c4 : (a1 : Int).toNat ≤ 35184372088832
    · rw [if_pos c4] at H
      have c4b0 := eq_true c4
      have c4b1 : decide ((a1 : Int).toNat ≤ 35184372088832) = true := decide_eq_true c4
      clear c4
      obtain ⟨y234, hy234⟩ : ∃ y_ : List Int, y_ = (List.replicate (a1 : Int).toNat 0) := ⟨_, rfl⟩
      replace H : (impl_Walker_visits.l0 k a1 y234 (wrap64 (a0_4)) 0 a0_0 a0_1 a0_2 a0_3 a0_4 a0_5) = some r := by first | (rw [hy234]; with_reducible exact H) | (have H2_ := (Option.bind_some _ _).symm.trans H; rw [hy234]; with_reducible exact H2_) | (have H2_ := (Option.bind_some _ _).symm.trans H; with_reducible exact H2_) | with_reducible exact H | (rw [hy234]; exact H) | exact H
      have Ny234 := Aside0.mk hy234
      clear hy234
      have H' := Aside0.mk H
      clear H
      go_enter Try.func104, Try.ntmps104
      go_wp2_with (first | ((with_reducible refine gate_dst (N := 2) rfl ?_); refine box_event ?hg (N := 2) ?hd (cs := #[.int .i16 a0_0, .int .i16 a0_1, .int .i16 a0_2, .int .i16 a0_3, .int .i16 a0_4, .int .i8 a0_5]) (t := 38) ?hr ?_; (case hd => rfl); (case hg => rfl); (case hr => first | (go_simp; done) | (go_simp; rfl)); intro gb233 hg w5 hbox hb; have n0_ := Aside0.mk (below_step (by repeat (first | (with_reducible first | exact HB.out | apply below_alloc | apply pw_below_drewN | apply below_drew1) | exact HB.out)) hb); have n1_ := Aside0.mk (hbox); have n2_ := Aside0.mk ((by rw [hg]; exact (below_size (by repeat (first | (with_reducible first | exact HB.out | apply below_alloc | apply pw_below_drewN | apply below_drew1) | exact HB.out))) : w.heap.size ≤ gb233)); have n3_ := Aside0.mk ((by rw [hg]; exact (below_size (by repeat (first | (with_reducible first | exact HB.out | apply below_alloc | apply pw_below_drewN | apply below_drew1) | exact HB.out))) : w.heap.size ≤ gb233)); clear HB; have HB := n0_; have BK233 := n1_; have GW233 := n2_; have GE233 := n3_; clear n0_ n1_ n2_ n3_; clear hb hbox hg) | ((with_reducible refine gate_dst (N := 8) rfl ?_); refine Kd.R_make (Kd.int .i64) _ 2 rfl (N := 8) rfl 47 _ _ rfl a1 rfl rfl Try.underlying47 (.int .i64 0) 8 info2 rfl (by decide) (by omega) 0 (ok := fun _ => True) (okp := fun _ => True) rfl (fun _ hk => hk) trivial (of_decide_eq_true (by first | (with_reducible assumption) | assumption)) (Nat.le_trans (Nat.mul_le_mul_right _ (of_decide_eq_true (by first | (with_reducible assumption) | assumption) : a1.toNat ≤ 35184372088832)) (by omega)) (Below.refl _ _) (Nat.le_refl _) ?_; intro v235 w6 ho7 hb hg_ hnew_; clear hg_ hnew_; (first | rw [← Ny234.out] at ho7 | (simp only [Int.reduceToNat] at ho7; rw [← Ny234.out] at ho7)); have n0_ := Aside0.mk (Kd.R_lower ho7 (below_size (by repeat (first | (with_reducible first | exact HB.out | apply below_alloc | apply pw_below_drewN | apply below_drew1 | refine below_set ?_ GE233.out) | exact HB.out)))); have n1_ := Aside0.mk (blk_below (g := gb233) (o := .cells #[.int .i16 a0_0, .int .i16 a0_1, .int .i16 a0_2, .int .i16 a0_3, .int .i16 a0_4, .int .i8 a0_5] 38 (0, 0)) (by (with_reducible repeat (first | refine blk_drewN ?_ _ | refine blk_drew ?_ | refine blk_alloc ?_ _)); exact BK233.out) hb); have n2_ := Aside0.mk (below_step (by repeat (first | (with_reducible first | exact HB.out | apply below_alloc | apply pw_below_drewN | apply below_drew1 | refine below_set ?_ GE233.out) | exact HB.out)) hb); clear BK233; clear HB; have HO236 := n0_; have BK233 := n1_; have HB := n2_; clear n0_ n1_ n2_; clear hb ho7; have hcz8_0 : w6.cell? ⟨gb233, 0, none⟩ = some (.int .i16 a0_0) := (blk_cell BK233.out 0).trans rfl; have hcz8_1 : w6.cell? ⟨gb233, 1, none⟩ = some (.int .i16 a0_1) := (blk_cell BK233.out 1).trans rfl; have hcz8_2 : w6.cell? ⟨gb233, 2, none⟩ = some (.int .i16 a0_2) := (blk_cell BK233.out 2).trans rfl; have hcz8_3 : w6.cell? ⟨gb233, 3, none⟩ = some (.int .i16 a0_3) := (blk_cell BK233.out 3).trans rfl; have hcz8_4 : w6.cell? ⟨gb233, 4, none⟩ = some (.int .i16 a0_4) := (blk_cell BK233.out 4).trans rfl; have hcz8_5 : w6.cell? ⟨gb233, 5, none⟩ = some (.int .i8 a0_5) := (blk_cell BK233.out 5).trans rfl; have hfz8_0 := blk_frozen BK233.out 0; have hfz8_1 := blk_frozen BK233.out 1; have hfz8_2 := blk_frozen BK233.out 2; have hfz8_3 := blk_frozen BK233.out 3; have hfz8_4 := blk_frozen BK233.out 4; have hfz8_5 := blk_frozen BK233.out 5))
      go_loopg [12] k (fun kq v12 w' => ∃ (x5_1 : List Int) (x12_1 : Int), v12 = .int .i64 x12_1 ∧ Aside0 (impl_Walker_visits.l0 kq a1 x5_1 (wrap64 (a0_4)) x12_1 a0_0 a0_1 a0_2 a0_3 a0_4 a0_5 = some r) ∧ Aside0 (kq ≤ k) ∧ Aside0 (Kd.R (Kd.int .i64) 2 w' w.heap.size (fun _ => True) v235 x5_1) ∧ Aside0 (w'.heap[gb233]? = some (.cells #[.int .i16 a0_0, .int .i16 a0_1, .int .i16 a0_2, .int .i16 a0_3, .int .i16 a0_4, .int .i8 a0_5] 38 (0, 0))) ∧ Aside0 (Below w.heap.size w w'))
      case atStart => exact ⟨(y234), (0), (by first | rfl | (simp; done) | (simp [*]; done)), H', ⟨Nat.le_refl _⟩, ⟨by (with_reducible repeat (first | apply Kd.R_alloc | apply Kd.R_drewN | apply Kd.R_drew)); exact HO236.out⟩, ⟨by (with_reducible repeat (first | refine blk_drewN ?_ _ | refine blk_drew ?_ | refine blk_alloc ?_ _)); exact BK233.out⟩, ⟨by repeat (first | (with_reducible first | exact HB.out | apply below_alloc | apply pw_below_drewN | apply below_drew1 | refine below_set ?_ GE233.out) | exact HB.out)⟩⟩
      case round =>
        clear H'
        try clear c1
        try clear p2
        try clear c3
        try clear c3b0
        try clear c3b1
        try clear c4
        try clear c4b0
        try clear c4b1
        try clear p6
        try clear hcz8_0
        try clear hcz8_1
        try clear hcz8_2
        try clear hcz8_3
        try clear hcz8_4
        try clear hcz8_5
        try clear hfz8_0
        try clear hfz8_1
        try clear hfz8_2
        try clear hfz8_3
        try clear hfz8_4
        try clear hfz8_5
        obtain ⟨x5_1, x12_1, rfl, HA, HK1, HO_5, BK233, HB⟩ := hrel
        cases gk with
        | zero => exact absurd HA.out (by simp [impl_Walker_visits.l0])
        | succ k1 =>
          have H := HA.out
          clear HA
          simp only [impl_Walker_visits.l0] at H
          by_cases c9 : x12_1 < (wrap64 (a0_4))
          · rw [if_pos c9] at H
            have c9b0 : decide (x12_1 < (wrap64 (a0_4))) = true := decide_eq_true c9
            clear c9
            by_cases c10 : a1 = 0
            · rw [if_pos c10] at H
              exact absurd H (by simp)
            · rw [if_neg c10] at H
              have c10b0 : (a1 == 0) = false := beq_eq_false_iff_ne.mpr c10
              have c10b1 : (a1 != 0) = true := bne_iff_ne.mpr c10
              obtain ⟨ji11, hji11⟩ : ∃ j_ : Int, (Int.tmod (wrap64 ((wrap64 (a0_2)) + (wrap64 (x12_1 * (wrap64 (a0_3)))))) a1) = j_ := ⟨_, rfl⟩
              replace H : (if 0 ≤ (ji11) then (if (ji11) < (x5_1.length : Int) then (impl_Walker_visits.l0 k1 a1 (x5_1.set ((ji11) : Int).toNat (wrap64 ((rd x5_1 (ji11)) + 1))) (wrap64 (a0_4)) (wrap64 (x12_1 + 1)) a0_0 a0_1 a0_2 a0_3 a0_4 a0_5) else (none)) else (none)) = some r := by first | (rw [hji11] at H; exact H) | (simp only [hji11] at H ⊢; exact H)
              by_cases c12 : 0 ≤ (ji11)
              · rw [if_pos c12] at H
                have c12b0 : decide (0 ≤ (ji11)) = true := decide_eq_true c12
                clear c12
                by_cases c13 : (ji11) < (x5_1.length : Int)
                · rw [if_pos c13] at H
                  have c13b0 : decide ((ji11) < (x5_1.length : Int)) = true := decide_eq_true c13
                  clear c13
                  obtain ⟨y238, hy238⟩ : ∃ y_ : List Int, y_ = (x5_1.set ((ji11) : Int).toNat (wrap64 ((rd x5_1 (ji11)) + 1))) := ⟨_, rfl⟩
                  replace H : (impl_Walker_visits.l0 k1 a1 y238 (wrap64 (a0_4)) (wrap64 (x12_1 + 1)) a0_0 a0_1 a0_2 a0_3 a0_4 a0_5) = some r := by first | (rw [hy238]; with_reducible exact H) | (have H2_ := (Option.bind_some _ _).symm.trans H; rw [hy238]; with_reducible exact H2_) | (have H2_ := (Option.bind_some _ _).symm.trans H; with_reducible exact H2_) | with_reducible exact H | (rw [hy238]; exact H) | exact H
                  have Ny238 := Aside0.mk hy238
                  clear hy238
                  have H' := Aside0.mk H
                  clear H
                  have hcz15_0 : wr.cell? ⟨gb233, 0, none⟩ = some (.int .i16 a0_0) := (blk_cell BK233.out 0).trans rfl
                  have hcz15_1 : wr.cell? ⟨gb233, 1, none⟩ = some (.int .i16 a0_1) := (blk_cell BK233.out 1).trans rfl
                  have hcz15_2 : wr.cell? ⟨gb233, 2, none⟩ = some (.int .i16 a0_2) := (blk_cell BK233.out 2).trans rfl
                  have hcz15_3 : wr.cell? ⟨gb233, 3, none⟩ = some (.int .i16 a0_3) := (blk_cell BK233.out 3).trans rfl
                  have hcz15_4 : wr.cell? ⟨gb233, 4, none⟩ = some (.int .i16 a0_4) := (blk_cell BK233.out 4).trans rfl
                  have hcz15_5 : wr.cell? ⟨gb233, 5, none⟩ = some (.int .i8 a0_5) := (blk_cell BK233.out 5).trans rfl
                  have hfz15_0 := blk_frozen BK233.out 0
                  have hfz15_1 := blk_frozen BK233.out 1
                  have hfz15_2 := blk_frozen BK233.out 2
                  have hfz15_3 := blk_frozen BK233.out 3
                  have hfz15_4 := blk_frozen BK233.out 4
                  have hfz15_5 := blk_frozen BK233.out 5
                  obtain ⟨Ao16, co16, eo16⟩ := Kd.R_slice HO_5.out
                  subst eo16
                  have p237 : 0 ≤ ((ji11) : Int) := of_decide_eq_true (by first | (with_reducible assumption) | assumption)
                  have q237 : (ji11) < (x5_1.length : Int) := of_decide_eq_true (by first | (with_reducible assumption) | assumption)
                  obtain ⟨ad237, e237, hx237_0⟩ := Kd.at_int (Kd.R_reads' HO_5.out).2.2 (ji11) p237 q237
                  cases e237
                  replace p237 := eq_true p237
                  replace q237 := eq_true q237
                  have p14 : 0 ≤ ((ji11) : Int) := of_decide_eq_true (by first | (with_reducible assumption) | assumption)
                  have q14 : ((ji11) : Int) < ((x5_1.length : Int) : Int) := of_decide_eq_true (by first | (with_reducible assumption) | assumption)
                  obtain ⟨go14, co14, eo14, gb14, gl14, cl14, HG14⟩ := Kd.R_form HO_5.out (by omega)
                  (first | cases eo14 | (injection eo14 with ea_ en_ ec_; (first | subst ea_ | (injection ea_ with ea_; subst ea_)); subst ec_; clear en_))
                  have GB14 := Aside0.mk gb14
                  have GG14 := Aside0.mk HG14
                  clear gb14 gl14 HG14
                  (first | simp only [add_plain] at hx237_0 | skip)
                  obtain ⟨hx14_0, hf14_0⟩ := Kd.R_celln 0 HO_5.out ((ji11) : Int) p14 q14
                  replace p14 := eq_true p14
                  replace q14 := eq_true q14
                  have HP17 := Kd.R_putg HO_5.out ((ji11) : Int) (wrap64 ((rd x5_1 (ji11)) + 1))
                  go_wp2_with (first | ((with_reducible refine gate_store (t := 2) (p := 30) rfl ?_); refine store_event (t := 2) (p := 30) (v := ?vo_w18) (w1 := (wr.setCell ⟨go14, ((ji11) : Int).toNat, none⟩ (.int .i64 (wrap64 ((rd x5_1 (ji11)) + 1))))) ?hg ?ho ?hn ?hr ?_; (case ho => rfl); (case hg => rfl); (case hn => rfl); (case hr => first | (go_simp; done) | (go_simp; rfl)); intro w18 hw; have hg : wr.grownBy w18 (some go14) := (by rw [hw]; exact HP17.2); have hp_ : Kd.R (Kd.int .i64) 2 w18 w.heap.size (fun _ => True) (.slice (some ⟨go14, 0, none⟩) x5_1.length co16) y238 := (by rw [hw, Ny238.out]; exact HP17.1); clear HP17; have n0_ := Aside0.mk (hp_); have n1_ := Aside0.mk (blk_grown (g := gb233) (o := .cells #[.int .i16 a0_0, .int .i16 a0_1, .int .i16 a0_2, .int .i16 a0_3, .int .i16 a0_4, .int .i8 a0_5] 38 (0, 0)) (by (with_reducible repeat (first | refine blk_drewN ?_ _ | refine blk_drew ?_ | refine blk_alloc ?_ _)); exact BK233.out) hg (Kd.R_ne HO_5.out BK233.out (by decide))); have n2_ := Aside0.mk ((by rw [hw]; exact below_set (HB.out) GB14.out : Below w.heap.size w w18)); clear HO_5; clear BK233; clear HB; have HO_5 := n0_; have BK233 := n1_; have HB := n2_; clear n0_ n1_ n2_; clear hg hw hp_))
                  go_roundg k1
                  case measure => have := HK1.out; omega
                  case rel => exact ⟨(y238), (wrap64 (x12_1 + 1)), (by first | rfl | (simp; done) | (simp [*]; done)), H', ⟨by have := HK1.out; omega⟩, ⟨by (with_reducible repeat (first | apply Kd.R_alloc | apply Kd.R_drewN | apply Kd.R_drew)); exact HO_5.out⟩, ⟨by (with_reducible repeat (first | refine blk_drewN ?_ _ | refine blk_drew ?_ | refine blk_alloc ?_ _)); exact BK233.out⟩, ⟨by repeat (first | (with_reducible first | exact HB.out | apply below_alloc | apply pw_below_drewN | apply below_drew1 | refine below_set ?_ GE233.out) | exact HB.out)⟩⟩
                · rw [if_neg c13] at H
                  exact absurd H (by simp)
              · rw [if_neg c12] at H
                exact absurd H (by simp)
          · rw [if_neg c9] at H
            have c9b0 : decide (x12_1 < (wrap64 (a0_4))) = false := decide_eq_false c9
            clear c9
            obtain rfl := Option.some.inj H
            go_wp2
            go_ret
            exact ⟨_, by first | rfl | (simp [errW_none, errW_some] <;> rfl) | (simp [*, errW_none, errW_some] <;> rfl), by (with_reducible repeat (first | apply Kd.R_alloc | apply Kd.R_drewN | apply Kd.R_drew)); exact HO_5.out, by repeat (first | (with_reducible first | exact HB.out | apply below_alloc | apply pw_below_drewN | apply below_drew1 | refine below_set ?_ GE233.out) | exact HB.out)⟩
    · rw [if_neg c4] at H
      exact absurd H (by simp)
  · rw [if_neg c3] at H
    exact absurd H (by simp)
end Go.Proofs.Ytmheflciiodhdaa.P
-- Written by wip/tools/mkprint.py of this repo, over the kit's print, out of the translation; Lean checks it.
namespace Go.Proofs.Ytmheflciiodhdaa.P
open Go.RowKit Go.Proofs.YtmheflciiodhdaaW.PrintWords Go.Proofs.YtmheflciiodhdaaW.PrintLast Go.Proofs.YtmheflciiodhdaaW.PrintMore
attribute [local go_sem] max2_int min2_int max_two min_two max_three min_three max_four min_four   -- for this text's walks alone
set_option linter.unusedVariables false
set_option linter.unusedSimpArgs false
/-! ### impl_eighths: function 101 -/
def impl_eighths.f (a0 : Int) : Option (Int) := some ((Int.tmod (wrap64 ((Int.tmod a0 8) + 8)) 8) % 256)
set_option maxHeartbeats 8000000 in
set_option maxRecDepth 100000 in
theorem impl_eighths.calls (a0 : Int) (r : Int) (w : World) (h : impl_eighths.f a0 = some r) :
    Calls Try.prog 101 #[.int .i64 a0] w fun e w' => e = .returned (.int .u8 r) ∧ Drawn0 w w' := by
  have H : (some ((Int.tmod (wrap64 ((Int.tmod a0 8) + 8)) 8) % 256)) = some r := h
  clear h
  obtain rfl := Option.some.inj H
  go_enter Try.func101, Try.ntmps101
  go_wp2
  go_ret
  exact ⟨by first | rfl | (simp; done) | (simp [*]; done), by repeat (first | exact Drawn0.refl _ | apply Drawn0.step)⟩
end Go.Proofs.Ytmheflciiodhdaa.P
-- Written by wip/tools/mkprint.py of this repo, over the kit's print, out of the translation; Lean checks it.
namespace Go.Proofs.Ytmheflciiodhdaa.P
open Go.RowKit Go.Proofs.YtmheflciiodhdaaW.PrintWords Go.Proofs.YtmheflciiodhdaaW.PrintLast Go.Proofs.YtmheflciiodhdaaW.PrintMore
attribute [local go_sem] max2_int min2_int max_two min_two max_three min_three max_four min_four   -- for this text's walks alone
set_option linter.unusedVariables false
set_option linter.unusedSimpArgs false
/-! ### impl_walked: given -/
/-- A closure that tells f of each of some walkers, in every later world. -/
structure CntW (fid : Nat) (lb : Array Value) (f : S38 → Int) (xs : List S38) (w : World) : Prop where
  eg : ∀ args w, (callFunc fid args).run Try.prog w = .ok (.enter fid args) w
  at_ : ∀ W, Below w.heap.size w W → ∀ x ∈ xs, Calls Try.prog fid (#[encW x] ++ lb) W fun e w' => e = .returned (.int .i64 (f x)) ∧ Below W.heap.size W w'
def addVis (n turn : Int) (sums vs : List Int) : List Int := List.zipWith (fun s v => wrap64 (s + wrap64 (wrap64 (n * v) * wrap64 turn))) sums vs
def walkSums (k : Nat) (len : Int) (f : S38 → Int) : List S38 → List Int → Option (List Int)
  | [], S => some S
  | x :: r, S => (impl_Walker_visits.f k x.f0 x.f1 x.f2 x.f3 x.f4 x.f5 len).bind fun vs => if vs.length = S.length then walkSums k len f r (addVis (f x) x.f5 S vs) else none
def eighth (z : Int) : Int := (Int.tmod (wrap64 ((Int.tmod z 8) + 8)) 8) % 256
def walkedF (k : Nat) (r : List Int) (list : List S38) (f : S38 → Int) : Option (List Int) :=
  (walkSums k (r.length : Int) f list (List.replicate r.length 0)).bind fun S => if S.length = r.length ∧ r.length ≤ 35184372088832 then some (List.zipWith (fun x s => eighth (wrap64 (wrap64 x + s))) r S) else none
theorem walkSums_cons {k : Nat} {len : Int} {f : S38 → Int} {x : S38} {r : List S38} {S Sf : List Int} (h : walkSums k len f (x :: r) S = some Sf) :
    ∃ vs, impl_Walker_visits.f k x.f0 x.f1 x.f2 x.f3 x.f4 x.f5 len = some vs ∧ vs.length = S.length ∧ walkSums k len f r (addVis (f x) x.f5 S vs) = some Sf := by
  unfold walkSums at h
  obtain ⟨vs, h1, h2⟩ := Option.bind_eq_some_iff.mp h
  by_cases hh : vs.length = S.length
  · rw [if_pos hh] at h2; exact ⟨vs, h1, hh, h2⟩
  · rw [if_neg hh] at h2; cases h2
theorem addVis_len {n turn : Int} {S vs : List Int} (h : vs.length = S.length) : (addVis n turn S vs).length = S.length := by simp [addVis, h]
theorem walkSums_mono {len : Int} {f : S38 → Int} : ∀ (l : List S38) (S : List Int) (k : Nat), LeO (walkSums k len f l S) (walkSums (k + 1) len f l S)
  | [], S, k => LeO.refl _
  | x :: r, S, k => by
    unfold walkSums
    exact LeO.bind (impl_Walker_visits.mono _ _ _ _ _ _ _ k) (fun vs => LeO.ite (walkSums_mono r _ k) (LeO.none _))
theorem walkedF_mono {r : List Int} {l : List S38} {f : S38 → Int} (k : Nat) : LeO (walkedF k r l f) (walkedF (k + 1) r l f) :=
  LeO.bind (walkSums_mono l _ k) (fun _ => LeO.refl _)
set_option maxHeartbeats 8000000 in
set_option maxRecDepth 100000 in
theorem walked_calls (k : Nat) (A0 : Option Addr) (c0 : Nat) (l0 : List Int) (A1 : Option Addr) (c1 : Nat) (l1 : List S38) (fid : Nat) (lb : Array Value) (f : S38 → Int) (r : List Int) (w : World)
    (hr0 : Kd.C (Kd.int .u8) w A0 l0.length l0) (hr1 : Kd.C k38 w A1 l1.length l1) (hp : CntW fid lb f l1 w) (h : walkedF k l0 l1 f = some r) :
    Calls Try.prog 70 #[.slice A0 l0.length c0, .slice A1 l1.length c1, .func (.func fid) #[] lb] w fun e w' => ∃ v0_ : Value, e = .returned (v0_) ∧ Kd.R (Kd.int .u8) 5 w' w.heap.size (fun _ => True) v0_ r ∧ Below w.heap.size w w' := by
  obtain ⟨Sf, hS, h1⟩ := Option.bind_eq_some_iff.mp h
  clear h
  have hl : Sf.length = l0.length ∧ l0.length ≤ 35184372088832 := by
    by_cases hh : Sf.length = l0.length ∧ l0.length ≤ 35184372088832
    · exact hh
    · simp [hh] at h1
  rw [if_pos hl] at h1
  obtain rfl := Option.some.inj h1
  have HR0 := Aside0.mk hr0
  have HR1 := Aside0.mk hr1
  have HM1 := Kd.C_max hr1
  have HL := Aside0.mk hl
  have HS := Aside0.mk hS
  have HP := Aside0.mk hp
  have eg := hp.eg
  have hu := Try.underlying38
  clear hr0 hr1 h1 hl hS hp
  go_enter Try.func70, Try.ntmps70
  go_wp2_with (first
      | ((with_reducible refine gate_dst (N := 18) rfl ?_); refine Kd.R_make (Kd.int .i64) (w0 := w) w.heap.size 2 rfl (N := 18) rfl 47 _ _ rfl (l0.length : Int) rfl rfl Try.underlying47 (.int .i64 0) 8 info2 rfl (by decide) (by omega) 0 (ok := fun _ => True) (okp := fun _ => True) rfl (fun _ hk => hk) trivial (by omega) (by have := HL.out.2; simp; omega) (Below.refl _ _) (Nat.le_refl _) ?_; intro v18 w18 ho18 hb18 _ _; have HO18 := Aside0.mk ho18; have HB18 := Aside0.mk hb18; clear ho18 hb18)
      | ((with_reducible refine gate_dst (N := 19) rfl ?_); refine Kd.R_lit (Kd.int .u8) (w0 := w) w.heap.size 5 rfl (N := 19) rfl (xs := ([] : List Int)) (inner := []) (ok := fun _ => True) (okp := fun _ => True) ?hr (Reps.none _ _) (fun _ hk => hk) trivial HB18.out HB18.out.size (by simp) ?_; (case hr => first | (go_simp; done) | (go_simp; rfl)); intro v19 w19 ho19 hb19 hg19 _; have HO19 := Aside0.mk ho19; have HO18' := Aside0.mk (Kd.R_grown (row := none) HO18.out hg19 (fun _ _ => by simp)); have HB19 := Aside0.mk hb19; clear ho19 hb19 hg19 HO18 HB18))
  have HO18 : Aside0 (Kd.R (Kd.int .i64) 2 w19 w.heap.size (fun _ => True) v18 (List.replicate l0.length 0)) := ⟨by simpa using HO18'.out⟩
  clear HO18'
  obtain ⟨A18, c18, hv18⟩ := Kd.R_slice HO18.out
  rw [List.length_replicate] at hv18
  subst hv18
  go_loopw [10, 11, 12, 13, 22] (fun v10 v11 v12 v13 v22 w' => ∃ (i : Nat) (S : List Int), i ≤ l1.length ∧ v22 = .int .i64 i ∧ Aside0 (S.length = l0.length) ∧ Aside0 (walkSums k (l0.length : Int) f (l1.drop i) S = some Sf) ∧ Aside0 (Kd.R (Kd.int .i64) 2 w' w.heap.size (fun _ => True) (.slice A18 l0.length c18) S) ∧ Aside0 (Kd.R (Kd.int .u8) 5 w' w.heap.size (fun _ => True) v19 []) ∧ Aside0 (Below w.heap.size w w')) (fun _ _ _ _ v22 _ => l1.length - (intOf v22).toNat)
  case atStart => exact ⟨0, _, Nat.zero_le _, rfl, ⟨by simp⟩, ⟨by simpa using HS.out⟩, HO18, HO19, HB19⟩
  case round =>
    clear HO18 HO19 HB19 HS
    obtain ⟨i, S, hi, rfl, HSL, HS, HOS, HO19, HB⟩ := hrel
    by_cases hlt : i < l1.length
    · obtain ⟨vs, hvs, hvl, hS2⟩ := walkSums_cons (by have := HS.out; rw [drop_rdW hlt] at this; exact this)
      have HV := Aside0.mk hvs
      have HVL := Aside0.mk hvl
      have HS2 := Aside0.mk hS2
      have hmem : rd_T38 l1 (i : Int) ∈ l1 := by simp [rd_T38, hlt]
      have HMEM := Aside0.mk hmem
      clear hvs hvl hS2 hmem
      obtain ⟨ad, rfl, h0, h1, h2, h3, h4, h5⟩ := at_T38 (Kd.C_below HR1.out HB.out) (i : Int) (by omega) (by omega)
      simp only [Int.toNat_natCast] at h0 h1 h2 h3 h4 h5
      obtain ⟨wo, rfl⟩ : ∃ wo : World, wo = wr := ⟨_, rfl⟩
      go_wp2_with (first
        | (go_at_fn fid; refine (HP.out.at_ _ (below_alloc HB.out _) _ HMEM.out).mono ?_; rintro e w2 ⟨rfl, hb2⟩; (have HB2 := Aside0.mk (below_step (below_alloc HB.out _) hb2)); (have HOS2 := Aside0.mk (Kd.R_below (Kd.R_alloc HOS.out _) hb2)); (have HO192 := Aside0.mk (Kd.R_below (Kd.R_alloc HO19.out _) hb2)); (have BK2 := Aside0.mk ((hb2.block wo.heap.size (by simp)).trans (heap_alloc_new wo _))); (have hcb := blk_cell BK2.out); (have hcb0 := hcb 0; have hcb1 := hcb 1; have hcb2 := hcb 2; have hcb3 := hcb 3; have hcb4 := hcb 4; have hcb5 := hcb 5; clear hcb; simp at hcb0 hcb1 hcb2 hcb3 hcb4 hcb5); clear hb2 HOS HO19 h0 h1 h2 h3 h4 h5)
        | (go_at_call 104; refine (impl_Walker_visits.calls k _ _ _ _ _ _ _ vs _ HV.out).mono ?_; rintro e w3 ⟨v3, rfl, ho3, hb3⟩; (have HO3 := Aside0.mk (Kd.R_mono (Kd.R_lower (Kd.R_newR ho3 HOS2.out) HB2.out.size) (fun _ h => h.2))); (have HB3 := Aside0.mk (below_step HB2.out hb3)); (have HOS3 := Aside0.mk (Kd.R_below HOS2.out hb3)); (have HO193 := Aside0.mk (Kd.R_below HO192.out hb3)); (have BK3 := Aside0.mk ((hb3.block _ (blk_lt BK2.out)).trans BK2.out)); clear ho3 hb3 HB2 HOS2 HO192 BK2 hcb0 hcb1 hcb2 hcb3 hcb4 hcb5; obtain ⟨A3, c3, rfl⟩ := Kd.R_slice HO3.out))
      go_loopw [12, 13, 34] (fun v12 v13 v34 w' => ∃ (j : Nat), j ≤ vs.length ∧ v34 = .int .i64 j ∧ Aside0 (Kd.R (Kd.int .i64) 2 w' w.heap.size (fun _ => True) (.slice A18 l0.length c18) (addVis (f (rd_T38 l1 i)) (rd_T38 l1 i).f5 (S.take j) (vs.take j) ++ S.drop j)) ∧ Aside0 (Kd.R (Kd.int .i64) 2 w' w.heap.size (fun k_ => some k_ ≠ (Value.slice A18 l0.length c18).ownBlock) (.slice A3 vs.length c3) vs) ∧ Aside0 (Kd.R (Kd.int .u8) 5 w' w.heap.size (fun _ => True) v19 []) ∧ Aside0 (w'.heap[wo.heap.size]? = some (.cells #[.int .i16 (rd_T38 l1 i).f0, .int .i16 (rd_T38 l1 i).f1, .int .i16 (rd_T38 l1 i).f2, .int .i16 (rd_T38 l1 i).f3, .int .i16 (rd_T38 l1 i).f4, .int .i8 (rd_T38 l1 i).f5] 38 (0, 0))) ∧ Aside0 (Below w.heap.size w w')) (fun _ _ v34 _ => vs.length - (intOf v34).toNat)
      case atStart => exact ⟨0, Nat.zero_le _, rfl, ⟨by simpa [addVis] using HOS3.out⟩, HO3, HO193, BK3, HB3⟩
      case round =>
        clear HO3 HOS3 HO193 BK3 HB3
        obtain ⟨j, hj, rfl, HOS, HO3, HO19, BK, HB2⟩ := hrel
        have hvb : vs.length ≤ 35184372088832 := by have := HVL.out; have := HSL.out; have := HL.out.2; omega
        by_cases hjl : j < vs.length
        · have HLEN := Aside0.mk (zipL_len (f := fun s v => wrap64 (s + wrap64 (wrap64 (f (rd_T38 l1 i) * v) * wrap64 (rd_T38 l1 i).f5))) (S := S) (vs := vs) (j := j) (by have := HVL.out; omega) HVL.out)
          have hjS : j < S.length := by have := HVL.out; omega
          have HJS := Aside0.mk hjS
          clear hjS
          obtain ⟨g18, cap18, hv18, hg18, _, cl18, hcl18⟩ := Kd.R_form HOS.out (by unfold addVis; rw [HLEN.out]; have := HJS.out; omega)
          obtain ⟨rfl, -, rfl⟩ : A18 = some ⟨g18, 0, none⟩ ∧ _ ∧ c18 = cap18 := by injection hv18 with h1 h2 h3; exact ⟨h1, h2, h3⟩
          clear hv18
          have HCL := Aside0.mk hcl18
          clear hcl18
          have P := fun m => Kd.R_putn (Kd.R_drewN HOS.out m) (j : Int) (wrap64 (rd S j + wrap64 (wrap64 (f (rd_T38 l1 i) * rd vs j) * wrap64 (rd_T38 l1 i).f5)))
          have PP := Aside0.mk P
          clear P
          obtain ⟨hx, hfx⟩ := Kd.R_celln 0 HOS.out (j : Int) (by omega) (by have := HSL.out; have := HJS.out; omega)
          obtain ⟨ad3, rfl, hv⟩ := at_nat (Kd.R_reads' HO3.out).2.2 j (by omega)
          have hx2 : wr.cell? ⟨g18, j, none⟩ = some (.int .i64 (rd S j)) := by
            have h1 := rd_zipL (f := fun s v => wrap64 (s + wrap64 (wrap64 (f (rd_T38 l1 i) * v) * wrap64 (rd_T38 l1 i).f5))) (S := S) (vs := vs) (j := j) HJS.out HVL.out
            have h0 := hx
            simp only [Int.toNat_natCast] at h0
            rw [h0]
            exact congrArg (fun z => some (Value.int .i64 z)) h1
          simp only [Int.toNat_natCast] at hfx
          clear hx
          have hbk5 := blk_cell BK.out 5
          simp at hbk5
          have hd1 : decide (j < l0.length) = true := by have := HSL.out; have := HJS.out; simp; omega
          have q1 := eq_true (show (j : Int) < (l0.length : Int) by have := HSL.out; have := HJS.out; omega)
          have q0 := eq_true (show (0 : Int) ≤ (j : Int) by omega)
          go_wp2
          go_still_tail 12, (by kernel_rfl)
          go_wp2
          go_roundw
          case rel =>
            refine ⟨j + 1, by omega, by go_num, ⟨?_⟩, ⟨?_⟩, ⟨?_⟩, ⟨?_⟩, ⟨?_⟩⟩
            · unfold addVis
              rw [← zipL_snoc HJS.out HVL.out]
              exact PP.out 1
            · exact Kd.R_mono (Kd.R_far (p := ⟨g18, j, none⟩) (Kd.R_drew HO3.out) (fun k_ hk he => hk (by rw [he]; rfl)) _) (fun _ h => h)
            · exact Kd.R_mono (Kd.R_far (p := ⟨g18, j, none⟩) (Kd.R_types (Kd.R_drew HO19.out) (g := g18) (t := 2) HCL.out (by decide)) (fun _ hk => hk.2) _) (fun _ _ => trivial)
            · exact blk_far (w := wr.drew) BK.out (blk_ne BK.out HCL.out (by decide)) _
            · exact below_set (below_drew HB2.out) hg18
          case measure => simp [intOf]; omega
        · have hje : j = vs.length := by omega
          go_wp2
          go_roundw
          case rel =>
            refine ⟨i + 1, _, by omega, by go_num, ⟨(addVis_len HVL.out).trans HSL.out⟩, ⟨HS2.out⟩, ⟨?_⟩, HO19, HB2⟩
            have h1 := HOS.out
            unfold addVis at h1 ⊢
            rw [hje, HVL.out, zipL_all HVL.out] at h1
            exact h1
          case measure => simp [intOf]; omega
    · have hie : i = l1.length := by omega
      have hSS : S = Sf := by have := HS.out; rw [hie, List.drop_length] at this; exact Option.some.inj this
      subst hSS
      clear hie hi HS
      go_wp2
      go_loopw [8, 14, 15, 56] (fun v8 v14 v15 v56 w' => ∃ (j : Nat), j ≤ l0.length ∧ v56 = .int .i64 j ∧ Aside0 (Kd.R (Kd.int .i64) 2 w' w.heap.size (fun _ => True) (.slice A18 l0.length c18) S) ∧ Aside0 (Kd.R (Kd.int .u8) 5 w' w.heap.size (fun _ => True) v8 (List.zipWith (fun x s => eighth (wrap64 (wrap64 x + s))) (l0.take j) (S.take j))) ∧ Aside0 (Below w.heap.size w w')) (fun _ _ _ v56 _ => l0.length - (intOf v56).toNat)
      case atStart => exact ⟨0, Nat.zero_le _, rfl, HOS, ⟨by simpa using HO19.out⟩, HB⟩
      case round =>
        clear HOS HO19 HB
        obtain ⟨j, hj, rfl, HOS, HO19, HB⟩ := hrel
        have hvb : l0.length ≤ 35184372088832 := HL.out.2
        by_cases hjl : j < l0.length
        · obtain ⟨ad0, rfl, hx⟩ := at_nat (Kd.C_below HR0.out HB.out) j hjl
          have hjS : j < S.length := by have := HSL.out; omega
          obtain ⟨ad18, rfl, hs⟩ := at_nat (Kd.R_reads' HOS.out).2.2 j hjS
          have HJS := Aside0.mk hjS
          clear hjS
          have hd1 : decide (j < l0.length) = true := by simp; omega
          go_wp2_with (first
            | (go_at_call 101; refine (impl_eighths.calls _ _ _ rfl).mono ?_; rintro e w' ⟨rfl, ⟨nd, rfl⟩⟩)
            | (at_builtin; refine Kd.R_append (Kd.int .u8) (w0 := w) w.heap.size rfl (.tmp 61) (.tmp 70) 24 5 (.int .u8 0) 1 rfl Try.underlying24 info5 rfl (by decide) (by omega) _ _ (eighth (wrap64 (wrap64 (rd l0 j) + rd S j))) _ (fun _ => True) (fun _ => False) rfl rfl rfl (fun _ hk => hk.elim) (fun _ _ => trivial) (Kd.R_drewN HO19.out _) (pw_below_drewN HB.out _) HB.out.size (by have := HL.out.2; simp; omega) ?_; intro v71 w71 ho71 hb71 hg71 _; (have HO71 := Aside0.mk ho71); (have HB71 := Aside0.mk hb71); (have HOS71 := Aside0.mk (Kd.R_over (Kd.R_drewN HOS.out nd) (Kd.R_drewN HO19.out nd) (by decide) hg71)); clear ho71 hb71 hg71))
          go_roundw
          case rel =>
            refine ⟨j + 1, by omega, by go_num, HOS71, ⟨?_⟩, HB71⟩
            have h1 := HO71.out
            rw [List.take_succ_eq_append_getElem hjl, List.take_succ_eq_append_getElem HJS.out, List.zipWith_append (by simp; have := HJS.out; omega)]
            simpa [rd, hjl, HJS.out] using h1
          case measure => simp [intOf]; omega
        · have hje : j = l0.length := by omega
          go_wp2
          go_ret
          refine ⟨_, rfl, ?_, HB.out⟩
          have h1 := HO19.out
          rw [hje, List.take_length, ← HSL.out, List.take_length] at h1
          exact h1
end Go.Proofs.Ytmheflciiodhdaa.P
-- Written by wip/tools/mkprint.py of this repo, over the kit's print, out of the translation; Lean checks it.
namespace Go.Proofs.Ytmheflciiodhdaa.P
open Go.RowKit Go.Proofs.YtmheflciiodhdaaW.PrintWords Go.Proofs.YtmheflciiodhdaaW.PrintLast Go.Proofs.YtmheflciiodhdaaW.PrintMore
attribute [local go_sem] max2_int min2_int max_two min_two max_three min_three max_four min_four   -- for this text's walks alone
set_option linter.unusedVariables false
set_option linter.unusedSimpArgs false
/-! ### impl_DayOf: given -/
def betweenO (x : S38) (a b : Int) : Option Int := impl_Walker_between.f x.f0 x.f1 x.f2 x.f3 x.f4 x.f5 a b
def betweenT (x : S38) (a b : Int) : Int := (betweenO x a b).getD 0
def codeB (a b : Bool) : Int := if a = true then (if b = true then 0 else 2) else 1
theorem codeOf_codeB (a b : Bool) : impl_codeOf.f a b = some (codeB a b) := by cases a <;> cases b <;> rfl
def rowOkB (l0 : List Int) (l1 : List S38) : Bool := validRow l0 && validWalkers (l0.length : Int) l1
theorem rowOk_rowOkB (l0 : List Int) (l1 : List S38) : impl_rowOk.f l0 l1 = some (rowOkB l0 l1) := by
  unfold impl_rowOk.f rowOkB impl_ValidRow.f impl_ValidWalkers.f
  cases h : validRow l0 <;> simp
theorem isDay_all (l : List Int) : impl_isDay.f l = some (l.all (inR 0 10000)) := by
  unfold impl_isDay.f impl_allWithin.f
  rfl
theorem isDay1 (x : Int) (g : Nat) (W : World) (h : W.cell? ⟨g, 0, none⟩ = some (.int .i64 x)) :
    Calls Try.prog 79 #[.slice (some ⟨g, 0, none⟩) 1 1] W fun e w' => e = .returned (.bool (inR 0 10000 x)) ∧ Below W.heap.size W w' :=
  impl_isDay.calls (some ⟨g, 0, none⟩) 1 [x] (inR 0 10000 x) W (C_one h) (Nat.le_refl _) (by rw [isDay_all]; simp)
set_option maxHeartbeats 1000000 in
theorem DayOf_cnt (w : World) (g : Nat) (d : Int) (xs : List S38) (hx : ∀ x ∈ xs, (betweenO x d d).isSome = true) (hc : w.cell? ⟨g, 0, none⟩ = some (.int .i64 d)) : CntW 80 #[.pointer (some ⟨g, 0, none⟩)] (fun x => betweenT x d d) xs w := by
  refine ⟨enters_of Try.func80 (by kernel_rfl) rfl, fun W hW x hm => ?_⟩
  show Calls Try.prog 80 #[encW x, .pointer (some ⟨g, 0, none⟩)] W _
  obtain ⟨v, hv⟩ := Option.isSome_iff_exists.mp (hx x hm)
  have HV := Aside0.mk hv
  have hT : betweenT x d d = v := by unfold betweenT; rw [hv]; rfl
  rw [hT]
  have hlt := World.block_lt_of_cell? w _ hc
  have hc' := pw_cell_below hW hc
  have hg' : g < W.heap.size := by have := hW.size; simp at hlt; omega
  have hu := Try.underlying38
  clear hc hlt hW hv hx hm hT
  unfold encW
  go_enter Try.func80, Try.ntmps80
  go_wp2_with (go_at_call 81; refine (impl_Walker_between.calls _ _ _ _ _ _ _ _ v _ HV.out).mono ?_; rintro e w' ⟨rfl, hb⟩; have HB := Aside0.mk hb; clear hb)
  go_ret
  exact ⟨rfl, below_step (below_alloc (Below.refl _ _) _) HB.out⟩
def impl_DayOf.f (k : Nat) (l0 : List Int) (l1 : List S38) (a2 : Int) : Option (List Int × Int) :=
  if codeB (rowOkB l0 l1) (inR 0 10000 a2) = 0 then (if l1.all (fun x => (betweenO x a2 a2).isSome) = true then (walkedF k l0 l1 (fun x => betweenT x a2 a2)).bind fun r => some (r, 0) else none) else some ([], codeB (rowOkB l0 l1) (inR 0 10000 a2))
theorem impl_DayOf.mono : ∀ a0 a1 a2 k, LeO (impl_DayOf.f k a0 a1 a2) (impl_DayOf.f (k + 1) a0 a1 a2) := fun _ _ _ k => LeO.ite (LeO.ite (LeO.bind (walkedF_mono k) (fun _ => LeO.refl _)) (LeO.none _)) (LeO.refl _)
set_option maxHeartbeats 4000000 in
set_option maxRecDepth 100000 in
theorem impl_DayOf.calls (k : Nat) (A0 : Option Addr) (c0 : Nat) (l0 : List Int) (A1 : Option Addr) (c1 : Nat) (l1 : List S38) (a2 : Int) (r1 : List Int) (r2 : Int) (w : World) (hr0 : Kd.C (Kd.int .u8) w A0 l0.length l0) (hc0 : l0.length ≤ c0) (hr1 : Kd.C k38 w A1 l1.length l1) (hc1 : l1.length ≤ c1) (h : impl_DayOf.f k l0 l1 a2 = some (r1, r2)) :
    Calls Try.prog 19 #[.slice A0 l0.length c0, .slice A1 l1.length c1, .int .i64 a2] w fun e w' => ∃ v0_ : Value, e = .returned (.tuple #[v0_, .int .i64 r2]) ∧ Kd.R (Kd.int .u8) 5 w' w.heap.size (fun _ => True) v0_ r1 ∧ Below w.heap.size w w' := by
  have HR0 := Aside0.mk hr0
  have HR1 := Aside0.mk hr1
  have HC0 := Aside0.mk hc0
  have HC1 := Aside0.mk hc1
  clear hr0 hr1 hc0 hc1
  by_cases hcode : codeB (rowOkB l0 l1) (inR 0 10000 a2) = 0
  · unfold impl_DayOf.f at h
    rw [if_pos hcode] at h
    have hx : l1.all (fun x => (betweenO x a2 a2).isSome) = true := by
      cases hh : l1.all (fun x => (betweenO x a2 a2).isSome) with
      | true => rfl
      | false => rw [hh] at h; simp at h
    rw [if_pos hx] at h
    obtain ⟨r, hf, h2⟩ := Option.bind_eq_some_iff.mp h
    simp only [Option.some.injEq, Prod.mk.injEq] at h2
    obtain ⟨rfl, rfl⟩ := h2
    have HF := Aside0.mk hf
    have HX := Aside0.mk (List.all_eq_true.mp hx)
    have HCD := Aside0.mk (show impl_codeOf.f (rowOkB l0 l1) (inR 0 10000 a2) = some 0 by rw [codeOf_codeB, hcode])
    clear h hf hx hcode
    go_enter Try.func19, Try.ntmps19
    go_wp2
    have hbx0 : (w.alloc (.cells #[.int .i64 a2] 2)).cell? ⟨w.heap.size, 0, none⟩ = some (.int .i64 a2) := by simp
    have HR0' := Aside0.mk (Kd.C_alloc HR0.out (.cells #[.int .i64 a2] 2))
    have HR1' := Aside0.mk (Kd.C_alloc HR1.out (.cells #[.int .i64 a2] 2))
    have HBW := Aside0.mk (below_alloc (Below.refl w.heap.size w) (.cells #[.int .i64 a2] 2))
    have HSZ := Aside0.mk (show w.heap.size ≤ (w.alloc (.cells #[.int .i64 a2] 2)).heap.size by simp)
    generalize w.alloc (.cells #[.int .i64 a2] 2) = w1 at hbx0 HR0' HR1' HBW HSZ ⊢
    have HB := Aside0.mk (Below.refl w1.heap.size w1)
    have HBX := Aside0.mk hbx0
    go_region_with (first
      | (go_at_call 68; refine (impl_rowOk.calls A0 c0 l0 A1 c1 l1 _ _ (Kd.C_below HR0'.out (by repeat (first | exact HB.out | apply below_alloc | apply pw_below_drewN | apply below_drew1))) HC0.out (Kd.C_below HR1'.out (by repeat (first | exact HB.out | apply below_alloc | apply pw_below_drewN | apply below_drew1))) HC1.out (rowOk_rowOkB l0 l1)).mono ?_; rintro e w2 ⟨rfl, hb⟩; (have hbx := (pw_cell_below (below_step (by repeat (first | exact HB.out | apply below_alloc | apply pw_below_drewN | apply below_drew1)) hb) HBX.out)); (have n0_ := Aside0.mk (below_step (by repeat (first | exact HB.out | apply below_alloc | apply pw_below_drewN | apply below_drew1)) hb)); clear HB; have HB := n0_; clear n0_; obtain ⟨hcA, hfA⟩ := bcell hb; (have hzA := hb.size); (try simp at hzA); clear hb)
      | (go_at_call 79; refine (isDay1 a2 _ _ (by first | (simp; done) | (rw [hcA _ _ (by simp)]; simp))).mono ?_; rintro e w3 ⟨rfl, hb⟩; (have n0_ := Aside0.mk (below_step (by repeat (first | exact HB.out | apply below_alloc | apply pw_below_drewN | apply below_drew1)) hb)); clear HB; have HB := n0_; clear n0_; (have hzB := hb.size); (try simp at hzB); clear hb)
      | (go_at_call 67; refine (impl_codeOf.calls _ _ _ _ HCD.out).mono ?_; rintro e w4 ⟨rfl, ⟨nd, rfl⟩⟩))
    all_goals
      go_wp2_with (go_at_call 70; refine (walked_calls k A0 c0 l0 A1 c1 l1 _ _ _ r _ (Kd.C_below HR0'.out (by repeat (first | exact HB.out | apply below_alloc | apply pw_below_drewN | apply below_drew1))) (Kd.C_below HR1'.out (by repeat (first | exact HB.out | apply below_alloc | apply pw_below_drewN | apply below_drew1))) (DayOf_cnt _ w.heap.size a2 l1 HX.out (pw_cell_below (by repeat (first | exact HB.out | apply below_alloc | apply pw_below_drewN | apply below_drew1)) HBX.out)) HF.out).mono ?_; rintro e w5 ⟨v, rfl, ho, hb⟩; (have HO := Aside0.mk (Kd.R_lower ho (by exact (below_size (w := w1) (by repeat (first | exact HB.out | apply below_alloc | apply pw_below_drewN | apply below_drew1)))))); (have n0_ := Aside0.mk (below_step (by repeat (first | exact HB.out | apply below_alloc | apply pw_below_drewN | apply below_drew1)) hb)); clear HB; have HB := n0_; clear n0_ ho hb)
      go_ret2
      exact ⟨_, rfl, Kd.R_lower HO.out HSZ.out, below_step HBW.out HB.out⟩
  · unfold impl_DayOf.f at h
    rw [if_neg hcode] at h
    simp only [Option.some.injEq, Prod.mk.injEq] at h
    obtain ⟨rfl, rfl⟩ := h
    have HCD := Aside0.mk (codeOf_codeB (rowOkB l0 l1) (inR 0 10000 a2))
    have hne : (codeB (rowOkB l0 l1) (inR 0 10000 a2) != 0) = true := bne_iff_ne.mpr hcode
    have hne2 : (codeB (rowOkB l0 l1) (inR 0 10000 a2) == 0) = false := beq_eq_false_iff_ne.mpr hcode
    clear hcode
    go_enter Try.func19, Try.ntmps19
    go_wp2
    have hbx0 : (w.alloc (.cells #[.int .i64 a2] 2)).cell? ⟨w.heap.size, 0, none⟩ = some (.int .i64 a2) := by simp
    have HR0' := Aside0.mk (Kd.C_alloc HR0.out (.cells #[.int .i64 a2] 2))
    have HR1' := Aside0.mk (Kd.C_alloc HR1.out (.cells #[.int .i64 a2] 2))
    have HBW := Aside0.mk (below_alloc (Below.refl w.heap.size w) (.cells #[.int .i64 a2] 2))
    have HSZ := Aside0.mk (show w.heap.size ≤ (w.alloc (.cells #[.int .i64 a2] 2)).heap.size by simp)
    generalize w.alloc (.cells #[.int .i64 a2] 2) = w1 at hbx0 HR0' HR1' HBW HSZ ⊢
    have HB := Aside0.mk (Below.refl w1.heap.size w1)
    have HBX := Aside0.mk hbx0
    go_region_with (first
      | (go_at_call 68; refine (impl_rowOk.calls A0 c0 l0 A1 c1 l1 _ _ (Kd.C_below HR0'.out (by repeat (first | exact HB.out | apply below_alloc | apply pw_below_drewN | apply below_drew1))) HC0.out (Kd.C_below HR1'.out (by repeat (first | exact HB.out | apply below_alloc | apply pw_below_drewN | apply below_drew1))) HC1.out (rowOk_rowOkB l0 l1)).mono ?_; rintro e w2 ⟨rfl, hb⟩; (have hbx := (pw_cell_below (below_step (by repeat (first | exact HB.out | apply below_alloc | apply pw_below_drewN | apply below_drew1)) hb) HBX.out)); (have n0_ := Aside0.mk (below_step (by repeat (first | exact HB.out | apply below_alloc | apply pw_below_drewN | apply below_drew1)) hb)); clear HB; have HB := n0_; clear n0_; obtain ⟨hcA, hfA⟩ := bcell hb; (have hzA := hb.size); (try simp at hzA); clear hb)
      | (go_at_call 79; refine (isDay1 a2 _ _ (by first | (simp; done) | (rw [hcA _ _ (by simp)]; simp))).mono ?_; rintro e w3 ⟨rfl, hb⟩; (have n0_ := Aside0.mk (below_step (by repeat (first | exact HB.out | apply below_alloc | apply pw_below_drewN | apply below_drew1)) hb)); clear HB; have HB := n0_; clear n0_; (have hzB := hb.size); (try simp at hzB); clear hb)
      | (go_at_call 67; refine (impl_codeOf.calls _ _ _ _ HCD.out).mono ?_; rintro e w4 ⟨rfl, ⟨nd, rfl⟩⟩))
    all_goals
      go_wp2
      go_ret2
      exact ⟨_, rfl, Kd.R_nil _ _ _ _ _, below_step HBW.out (by repeat (first | exact HB.out | apply below_alloc | apply pw_below_drewN | apply below_drew1))⟩
end Go.Proofs.Ytmheflciiodhdaa.P
-- Written by wip/tools/mkprint.py of this repo, over the kit's print, out of the translation; Lean checks it.
namespace Go.Proofs.Ytmheflciiodhdaa.P
open Go.RowKit Go.Proofs.YtmheflciiodhdaaW.PrintWords Go.Proofs.YtmheflciiodhdaaW.PrintLast Go.Proofs.YtmheflciiodhdaaW.PrintMore
attribute [local go_sem] max2_int min2_int max_two min_two max_three min_three max_four min_four   -- for this text's walks alone
set_option linter.unusedVariables false
set_option linter.unusedSimpArgs false
/-! ### impl_Row_uint8_73: function 73 -/
def impl_Row_uint8_73.l0 : Nat → List Int → List Int → Int → Int → Option (Bool)
  | 0, _, _, _, _ => none
  | k + 1, x0, x1, x12, x13 => if x13 < x12 then (if 0 ≤ x13 then (if x13 < (x0.length : Int) then (if x13 < (x1.length : Int) then (if (rd x0 x13) = (rd x1 x13) then (impl_Row_uint8_73.l0 k x0 x1 x12 (wrap64 (x13 + 1))) else (some false)) else (none)) else (none)) else (none)) else (some true)
def impl_Row_uint8_73.f (k : Nat) (l0 : List Int) (l1 : List Int) : Option (Bool) := if (l0.length : Int) = (l1.length : Int) then (impl_Row_uint8_73.l0 k l0 l1 (l0.length : Int) 0) else (some false)
theorem impl_Row_uint8_73.mono_l : ∀ k, (∀ y0 y1 y2 y3, LeO (impl_Row_uint8_73.l0 k y0 y1 y2 y3) (impl_Row_uint8_73.l0 (k + 1) y0 y1 y2 y3))
  | 0 => fun _ _ _ _ r h => by simp [impl_Row_uint8_73.l0] at h
  | k + 1 => by
    have ih0 := impl_Row_uint8_73.mono_l k
    · intro y0 y1 y2 y3
      unfold impl_Row_uint8_73.l0
      repeat' first
      | (with_reducible exact ih0 _ _ _ _)
      | (with_reducible exact LeO.refl _)
      | (with_reducible exact LeO.none _)
      | (with_reducible refine LeO.ite ?_ ?_)
      | (with_reducible refine LeO.bind ?_ (fun _ => ?_))
      | exact ih0 _ _ _ _
      | exact LeO.none _
      | refine LeO.ite ?_ ?_
      | refine LeO.bind ?_ (fun _ => ?_)
theorem impl_Row_uint8_73.mono : ∀ a0 a1 k, LeO (impl_Row_uint8_73.f k a0 a1) (impl_Row_uint8_73.f (k + 1) a0 a1) := by
  intro a0 a1 k
  have ih0 := impl_Row_uint8_73.mono_l k
  unfold impl_Row_uint8_73.f
  repeat' first
      | (with_reducible exact ih0 _ _ _ _)
      | (with_reducible exact LeO.refl _)
      | (with_reducible exact LeO.none _)
      | (with_reducible refine LeO.ite ?_ ?_)
      | (with_reducible refine LeO.bind ?_ (fun _ => ?_))
      | exact ih0 _ _ _ _
      | exact LeO.none _
      | refine LeO.ite ?_ ?_
      | refine LeO.bind ?_ (fun _ => ?_)
set_option maxHeartbeats 8000000 in
set_option maxRecDepth 100000 in
theorem impl_Row_uint8_73.calls (k : Nat) (A0 : Option Addr) (c0 : Nat) (l0 : List Int) (A1 : Option Addr) (c1 : Nat) (l1 : List Int) (r : Bool) (w : World) (hr0 : Kd.C (Kd.int .u8) w A0 l0.length l0) (hc0 : l0.length ≤ c0) (hr1 : Kd.C (Kd.int .u8) w A1 l1.length l1) (hc1 : l1.length ≤ c1) (h : impl_Row_uint8_73.f k l0 l1 = some r) :
    Calls Try.prog 73 #[.slice A0 l0.length c0, .slice A1 l1.length c1] w fun e w' => e = .returned (.bool r) ∧ Drawn0 w w' := by
  have HR0 := Aside0.mk hr0
  have HC0 := Aside0.mk hc0
  clear hr0 hc0
  have HR1 := Aside0.mk hr1
  have HC1 := Aside0.mk hc1
  clear hr1 hc1
  have H : (if (l0.length : Int) = (l1.length : Int) then (impl_Row_uint8_73.l0 k l0 l1 (l0.length : Int) 0) else (some false)) = some r := h
  clear h
  by_cases c3 : (l0.length : Int) = (l1.length : Int)
  · rw [if_pos c3] at H
    have c3b0 : ((l0.length : Int) == (l1.length : Int)) = true := beq_iff_eq.mpr c3
    have c3b1 : ((l0.length : Int) != (l1.length : Int)) = false := bne_eq_false_iff_eq.mpr c3
    have c3b2 : (l0.length == l1.length) = true := by first | simpa using c3 | (simp at c3 ⊢; omega)
    clear c3
    have H' := Aside0.mk H
    clear H
    go_enter Try.func73, Try.ntmps73
    go_wp2
    repeat (go_quiet (fail); try go_wp2)
    go_loopg [13] k (fun kq v13 w' => ∃ (x13_1 : Int), v13 = .int .i64 x13_1 ∧ Aside0 (impl_Row_uint8_73.l0 kq l0 l1 (l0.length : Int) x13_1 = some r) ∧ Aside0 (kq ≤ k) ∧ Drawn0 w w')
    case atStart => exact ⟨(0), (by first | rfl | (simp; done) | (simp [*]; done)), H', ⟨Nat.le_refl _⟩, by repeat (first | exact Drawn0.refl _ | apply Drawn0.step)⟩
    case round =>
      clear H'
      try clear c1
      try clear p2
      try clear c3
      try clear c3b0
      try clear c3b1
      try clear c3b2
      obtain ⟨x13_1, rfl, HA, HK1, ⟨m1, rfl⟩⟩ := hrel
      cases gk with
      | zero => exact absurd HA.out (by simp [impl_Row_uint8_73.l0])
      | succ k1 =>
        have H := HA.out
        clear HA
        simp only [impl_Row_uint8_73.l0] at H
        by_cases c4 : x13_1 < (l0.length : Int)
        · rw [if_pos c4] at H
          have c4b0 : decide (x13_1 < (l0.length : Int)) = true := decide_eq_true c4
          clear c4
          by_cases c5 : 0 ≤ x13_1
          · rw [if_pos c5] at H
            have c5b0 : decide (0 ≤ x13_1) = true := decide_eq_true c5
            clear c5
            by_cases c6 : x13_1 < (l0.length : Int)
            · rw [if_pos c6] at H
              have c6b0 : decide (x13_1 < (l0.length : Int)) = true := decide_eq_true c6
              clear c6
              by_cases c7 : x13_1 < (l1.length : Int)
              · rw [if_pos c7] at H
                have c7b0 : decide (x13_1 < (l1.length : Int)) = true := decide_eq_true c7
                clear c7
                by_cases c8 : (rd l0 x13_1) = (rd l1 x13_1)
                · rw [if_pos c8] at H
                  have c8b0 : ((rd l0 x13_1) == (rd l1 x13_1)) = true := beq_iff_eq.mpr c8
                  have c8b1 : ((rd l0 x13_1) != (rd l1 x13_1)) = false := bne_eq_false_iff_eq.mpr c8
                  clear c8
                  have H' := Aside0.mk H
                  clear H
                  have p250 : 0 ≤ (x13_1 : Int) := of_decide_eq_true (by first | (with_reducible assumption) | assumption)
                  have q250 : x13_1 < (l0.length : Int) := of_decide_eq_true (by first | (with_reducible assumption) | assumption)
                  obtain ⟨ad250, e250, hx250_0⟩ := Kd.at_int HR0.out x13_1 p250 q250
                  cases e250
                  replace p250 := eq_true p250
                  replace q250 := eq_true q250
                  have p251 : 0 ≤ (x13_1 : Int) := of_decide_eq_true (by first | (with_reducible assumption) | assumption)
                  have q251 : x13_1 < (l1.length : Int) := of_decide_eq_true (by first | (with_reducible assumption) | assumption)
                  obtain ⟨ad251, e251, hx251_0⟩ := Kd.at_int HR1.out x13_1 p251 q251
                  cases e251
                  replace p251 := eq_true p251
                  replace q251 := eq_true q251
                  go_wp2
                  repeat (go_quiet (fail); try go_wp2)
                  go_roundg k1
                  case measure => have := HK1.out; omega
                  case rel => exact ⟨(wrap64 (x13_1 + 1)), (by first | rfl | (simp; done) | (simp [*]; done)), H', ⟨by have := HK1.out; omega⟩, by repeat (first | exact Drawn0.refl _ | apply Drawn0.step)⟩
                · rw [if_neg c8] at H
                  have c8b0 : ((rd l0 x13_1) == (rd l1 x13_1)) = false := beq_eq_false_iff_ne.mpr c8
                  have c8b1 : ((rd l0 x13_1) != (rd l1 x13_1)) = true := bne_iff_ne.mpr c8
                  obtain rfl := Option.some.inj H
                  have p250 : 0 ≤ (x13_1 : Int) := of_decide_eq_true (by first | (with_reducible assumption) | assumption)
                  have q250 : x13_1 < (l0.length : Int) := of_decide_eq_true (by first | (with_reducible assumption) | assumption)
                  obtain ⟨ad250, e250, hx250_0⟩ := Kd.at_int HR0.out x13_1 p250 q250
                  cases e250
                  replace p250 := eq_true p250
                  replace q250 := eq_true q250
                  have p251 : 0 ≤ (x13_1 : Int) := of_decide_eq_true (by first | (with_reducible assumption) | assumption)
                  have q251 : x13_1 < (l1.length : Int) := of_decide_eq_true (by first | (with_reducible assumption) | assumption)
                  obtain ⟨ad251, e251, hx251_0⟩ := Kd.at_int HR1.out x13_1 p251 q251
                  cases e251
                  replace p251 := eq_true p251
                  replace q251 := eq_true q251
                  go_wp2
                  repeat (go_quiet (fail); try go_wp2)
                  go_ret
                  exact ⟨by first | rfl | (simp; done) | (simp [*]; done), by repeat (first | exact Drawn0.refl _ | apply Drawn0.step)⟩
              · rw [if_neg c7] at H
                exact absurd H (by simp)
            · rw [if_neg c6] at H
              exact absurd H (by simp)
          · rw [if_neg c5] at H
            exact absurd H (by simp)
        · rw [if_neg c4] at H
          have c4b0 : decide (x13_1 < (l0.length : Int)) = false := decide_eq_false c4
          clear c4
          obtain rfl := Option.some.inj H
          go_wp2
          repeat (go_quiet (fail); try go_wp2)
          go_ret
          exact ⟨by first | rfl | (simp; done) | (simp [*]; done), by repeat (first | exact Drawn0.refl _ | apply Drawn0.step)⟩
  · rw [if_neg c3] at H
    have c3b0 : ((l0.length : Int) == (l1.length : Int)) = false := beq_eq_false_iff_ne.mpr c3
    have c3b1 : ((l0.length : Int) != (l1.length : Int)) = true := bne_iff_ne.mpr c3
    have c3b2 : (l0.length == l1.length) = false := by first | simpa using c3 | (simp at c3 ⊢; omega)
    obtain rfl := Option.some.inj H
    go_enter Try.func73, Try.ntmps73
    go_wp2
    repeat (go_quiet (fail); try go_wp2)
    go_ret
    exact ⟨by first | rfl | (simp; done) | (simp [*]; done), by repeat (first | exact Drawn0.refl _ | apply Drawn0.step)⟩
end Go.Proofs.Ytmheflciiodhdaa.P
-- Written by wip/tools/mkprint.py of this repo, over the kit's print, out of the translation; Lean checks it.
namespace Go.Proofs.Ytmheflciiodhdaa.P
open Go.RowKit Go.Proofs.YtmheflciiodhdaaW.PrintWords Go.Proofs.YtmheflciiodhdaaW.PrintLast Go.Proofs.YtmheflciiodhdaaW.PrintMore
attribute [local go_sem] max2_int min2_int max_two min_two max_three min_three max_four min_four   -- for this text's walks alone
set_option linter.unusedVariables false
set_option linter.unusedSimpArgs false
/-! ### impl_Walker_comes: function 74 -/
def impl_Walker_comes.f (a0_0 : Int) (a0_1 : Int) (a0_2 : Int) (a0_3 : Int) (a0_4 : Int) (a0_5 : Int) (a1 : Int) : Option (Bool) := if a1 ≥ (wrap64 (a0_0)) then (if (wrap64 (a0_1)) = 0 then (none) else (some ((Int.tmod (wrap64 (a1 - (wrap64 (a0_0)))) (wrap64 (a0_1))) == 0))) else (some false)
set_option maxHeartbeats 8000000 in
set_option maxRecDepth 100000 in
theorem impl_Walker_comes.calls (a0_0 : Int) (a0_1 : Int) (a0_2 : Int) (a0_3 : Int) (a0_4 : Int) (a0_5 : Int) (a1 : Int) (r : Bool) (w : World) (h : impl_Walker_comes.f a0_0 a0_1 a0_2 a0_3 a0_4 a0_5 a1 = some r) :
    Calls Try.prog 74 #[.agg #[.int .i16 a0_0, .int .i16 a0_1, .int .i16 a0_2, .int .i16 a0_3, .int .i16 a0_4, .int .i8 a0_5], .int .i64 a1] w fun e w' => e = .returned (.bool r) ∧ Below w.heap.size w w' := by
  have hu38 := Try.underlying38
  have HB := Aside0.mk (Below.refl w.heap.size w)
  have H : (if a1 ≥ (wrap64 (a0_0)) then (if (wrap64 (a0_1)) = 0 then (none) else (some ((Int.tmod (wrap64 (a1 - (wrap64 (a0_0)))) (wrap64 (a0_1))) == 0))) else (some false)) = some r := h
  clear h
  by_cases c3 : a1 ≥ (wrap64 (a0_0))
  · rw [if_pos c3] at H
    have c3b0 : decide ((wrap64 (a0_0)) ≤ a1) = true := decide_eq_true c3
    clear c3
    by_cases c4 : (wrap64 (a0_1)) = 0
    · rw [if_pos c4] at H
      exact absurd H (by simp)
    · rw [if_neg c4] at H
      have c4b0 : ((wrap64 (a0_1)) == 0) = false := beq_eq_false_iff_ne.mpr c4
      have c4b1 : ((wrap64 (a0_1)) != 0) = true := bne_iff_ne.mpr c4
      obtain rfl := Option.some.inj H
      go_enter Try.func74, Try.ntmps74
      go_wp2_with (first | ((with_reducible refine gate_dst (N := 2) rfl ?_); refine box_event ?hg (N := 2) ?hd (cs := #[.int .i16 a0_0, .int .i16 a0_1, .int .i16 a0_2, .int .i16 a0_3, .int .i16 a0_4, .int .i8 a0_5]) (t := 38) ?hr ?_; (case hd => rfl); (case hg => rfl); (case hr => first | (go_simp; done) | (go_simp; rfl)); intro gb252 hg w5 hbox hb; have n0_ := Aside0.mk (below_step (by repeat (first | (with_reducible first | exact HB.out | apply below_alloc | apply pw_below_drewN | apply below_drew1) | exact HB.out)) hb); have n1_ := Aside0.mk (hbox); have n2_ := Aside0.mk ((by rw [hg]; exact (below_size (by repeat (first | (with_reducible first | exact HB.out | apply below_alloc | apply pw_below_drewN | apply below_drew1) | exact HB.out))) : w.heap.size ≤ gb252)); have n3_ := Aside0.mk ((by rw [hg]; exact (below_size (by repeat (first | (with_reducible first | exact HB.out | apply below_alloc | apply pw_below_drewN | apply below_drew1) | exact HB.out))) : w.heap.size ≤ gb252)); clear HB; have HB := n0_; have BK252 := n1_; have GW252 := n2_; have GE252 := n3_; clear n0_ n1_ n2_ n3_; clear hb hbox hg; have hcz6_0 : w5.cell? ⟨gb252, 0, none⟩ = some (.int .i16 a0_0) := (blk_cell BK252.out 0).trans rfl; have hcz6_1 : w5.cell? ⟨gb252, 1, none⟩ = some (.int .i16 a0_1) := (blk_cell BK252.out 1).trans rfl; have hcz6_2 : w5.cell? ⟨gb252, 2, none⟩ = some (.int .i16 a0_2) := (blk_cell BK252.out 2).trans rfl; have hcz6_3 : w5.cell? ⟨gb252, 3, none⟩ = some (.int .i16 a0_3) := (blk_cell BK252.out 3).trans rfl; have hcz6_4 : w5.cell? ⟨gb252, 4, none⟩ = some (.int .i16 a0_4) := (blk_cell BK252.out 4).trans rfl; have hcz6_5 : w5.cell? ⟨gb252, 5, none⟩ = some (.int .i8 a0_5) := (blk_cell BK252.out 5).trans rfl; have hfz6_0 := blk_frozen BK252.out 0; have hfz6_1 := blk_frozen BK252.out 1; have hfz6_2 := blk_frozen BK252.out 2; have hfz6_3 := blk_frozen BK252.out 3; have hfz6_4 := blk_frozen BK252.out 4; have hfz6_5 := blk_frozen BK252.out 5))
      go_ret
      exact ⟨by first | rfl | (simp [errW_none, errW_some] <;> rfl) | (simp [*, errW_none, errW_some] <;> rfl), by repeat (first | (with_reducible first | exact HB.out | apply below_alloc | apply pw_below_drewN | apply below_drew1 | refine below_set ?_ GE252.out) | exact HB.out)⟩
  · rw [if_neg c3] at H
    have c3b0 : decide ((wrap64 (a0_0)) ≤ a1) = false := decide_eq_false c3
    clear c3
    obtain rfl := Option.some.inj H
    go_enter Try.func74, Try.ntmps74
    go_wp2_with (first | ((with_reducible refine gate_dst (N := 2) rfl ?_); refine box_event ?hg (N := 2) ?hd (cs := #[.int .i16 a0_0, .int .i16 a0_1, .int .i16 a0_2, .int .i16 a0_3, .int .i16 a0_4, .int .i8 a0_5]) (t := 38) ?hr ?_; (case hd => rfl); (case hg => rfl); (case hr => first | (go_simp; done) | (go_simp; rfl)); intro gb252 hg w7 hbox hb; have n0_ := Aside0.mk (below_step (by repeat (first | (with_reducible first | exact HB.out | apply below_alloc | apply pw_below_drewN | apply below_drew1) | exact HB.out)) hb); have n1_ := Aside0.mk (hbox); have n2_ := Aside0.mk ((by rw [hg]; exact (below_size (by repeat (first | (with_reducible first | exact HB.out | apply below_alloc | apply pw_below_drewN | apply below_drew1) | exact HB.out))) : w.heap.size ≤ gb252)); have n3_ := Aside0.mk ((by rw [hg]; exact (below_size (by repeat (first | (with_reducible first | exact HB.out | apply below_alloc | apply pw_below_drewN | apply below_drew1) | exact HB.out))) : w.heap.size ≤ gb252)); clear HB; have HB := n0_; have BK252 := n1_; have GW252 := n2_; have GE252 := n3_; clear n0_ n1_ n2_ n3_; clear hb hbox hg; have hcz8_0 : w7.cell? ⟨gb252, 0, none⟩ = some (.int .i16 a0_0) := (blk_cell BK252.out 0).trans rfl; have hcz8_1 : w7.cell? ⟨gb252, 1, none⟩ = some (.int .i16 a0_1) := (blk_cell BK252.out 1).trans rfl; have hcz8_2 : w7.cell? ⟨gb252, 2, none⟩ = some (.int .i16 a0_2) := (blk_cell BK252.out 2).trans rfl; have hcz8_3 : w7.cell? ⟨gb252, 3, none⟩ = some (.int .i16 a0_3) := (blk_cell BK252.out 3).trans rfl; have hcz8_4 : w7.cell? ⟨gb252, 4, none⟩ = some (.int .i16 a0_4) := (blk_cell BK252.out 4).trans rfl; have hcz8_5 : w7.cell? ⟨gb252, 5, none⟩ = some (.int .i8 a0_5) := (blk_cell BK252.out 5).trans rfl; have hfz8_0 := blk_frozen BK252.out 0; have hfz8_1 := blk_frozen BK252.out 1; have hfz8_2 := blk_frozen BK252.out 2; have hfz8_3 := blk_frozen BK252.out 3; have hfz8_4 := blk_frozen BK252.out 4; have hfz8_5 := blk_frozen BK252.out 5))
    go_ret
    exact ⟨by first | rfl | (simp [errW_none, errW_some] <;> rfl) | (simp [*, errW_none, errW_some] <;> rfl), by repeat (first | (with_reducible first | exact HB.out | apply below_alloc | apply pw_below_drewN | apply below_drew1 | refine below_set ?_ GE252.out) | exact HB.out)⟩
end Go.Proofs.Ytmheflciiodhdaa.P
-- Written by wip/tools/mkprint.py of this repo, over the kit's print, out of the translation; Lean checks it.
namespace Go.Proofs.Ytmheflciiodhdaa.P
open Go.RowKit Go.Proofs.YtmheflciiodhdaaW.PrintWords Go.Proofs.YtmheflciiodhdaaW.PrintLast Go.Proofs.YtmheflciiodhdaaW.PrintMore
attribute [local go_sem] max2_int min2_int max_two min_two max_three min_three max_four min_four   -- for this text's walks alone
set_option linter.unusedVariables false
set_option linter.unusedSimpArgs false
/-! ### impl_rowOn: given -/
def untilO (x : S38) (d : Int) : Option Int := impl_Walker_until.f x.f0 x.f1 x.f2 x.f3 x.f4 x.f5 d
def untilT (x : S38) (d : Int) : Int := (untilO x d).getD 0
set_option maxHeartbeats 1000000 in
theorem rowOn_cnt (w : World) (g : Nat) (d : Int) (xs : List S38) (hx : ∀ x ∈ xs, (untilO x d).isSome = true) (hc : w.cell? ⟨g, 0, none⟩ = some (.int .i64 d)) : CntW 111 #[.pointer (some ⟨g, 0, none⟩)] (fun x => untilT x d) xs w := by
  refine ⟨enters_of Try.func111 (by kernel_rfl) rfl, fun W hW x hm => ?_⟩
  show Calls Try.prog 111 #[encW x, .pointer (some ⟨g, 0, none⟩)] W _
  obtain ⟨v, hv⟩ := Option.isSome_iff_exists.mp (hx x hm)
  have HV := Aside0.mk hv
  have hT : untilT x d = v := by unfold untilT; rw [hv]; rfl
  rw [hT]
  have hlt := World.block_lt_of_cell? w _ hc
  have hc' := pw_cell_below hW hc
  have hg' : g < W.heap.size := by have := hW.size; simp at hlt; omega
  have hu := Try.underlying38
  clear hc hlt hW hv hx hm hT
  unfold encW
  go_enter Try.func111, Try.ntmps111
  go_wp2_with (go_at_call 95; refine (impl_Walker_until.calls _ _ _ _ _ _ _ v _ HV.out).mono ?_; rintro e w' ⟨rfl, hb⟩; have HB := Aside0.mk hb; clear hb)
  go_ret
  exact ⟨rfl, below_step (below_alloc (Below.refl _ _) _) HB.out⟩
def impl_rowOn.f (k : Nat) (l0 : List Int) (l1 : List S38) (a2 : Int) : Option (List Int) :=
  if l1.all (fun x => (untilO x a2).isSome) = true then walkedF k l0 l1 (fun x => untilT x a2) else none
theorem impl_rowOn.mono : ∀ a0 a1 a2 k, LeO (impl_rowOn.f k a0 a1 a2) (impl_rowOn.f (k + 1) a0 a1 a2) := fun _ _ _ k => LeO.ite (walkedF_mono k) (LeO.none _)
set_option maxHeartbeats 1000000 in
theorem impl_rowOn.calls (k : Nat) (A0 : Option Addr) (c0 : Nat) (l0 : List Int) (A1 : Option Addr) (c1 : Nat) (l1 : List S38) (a2 : Int) (r : List Int) (w : World) (hr0 : Kd.C (Kd.int .u8) w A0 l0.length l0) (hc0 : l0.length ≤ c0) (hr1 : Kd.C k38 w A1 l1.length l1) (hc1 : l1.length ≤ c1) (h : impl_rowOn.f k l0 l1 a2 = some r) :
    Calls Try.prog 71 #[.slice A0 l0.length c0, .slice A1 l1.length c1, .int .i64 a2] w fun e w' => ∃ v0_ : Value, e = .returned (v0_) ∧ Kd.R (Kd.int .u8) 5 w' w.heap.size (fun _ => True) v0_ r ∧ Below w.heap.size w w' := by
  have hx : l1.all (fun x => (untilO x a2).isSome) = true := by
    cases hh : l1.all (fun x => (untilO x a2).isSome) with
    | true => rfl
    | false => unfold impl_rowOn.f at h; rw [hh] at h; simp at h
  have hf : walkedF k l0 l1 (fun x => untilT x a2) = some r := by unfold impl_rowOn.f at h; rw [if_pos hx] at h; exact h
  have HF := Aside0.mk hf
  have HX := Aside0.mk (List.all_eq_true.mp hx)
  have HR0 := Aside0.mk hr0
  have HR1 := Aside0.mk hr1
  clear h hf hx hr0 hr1
  go_enter Try.func71, Try.ntmps71
  go_wp2_with (go_at_call 70; refine (walked_calls k A0 c0 l0 A1 c1 l1 _ _ _ r _ (Kd.C_alloc HR0.out _) (Kd.C_alloc HR1.out _) (rowOn_cnt _ w.heap.size a2 l1 HX.out (by simp)) HF.out).mono ?_; rintro e w' ⟨v, rfl, ho, hb⟩; (have HO := Aside0.mk ho); (have HB := Aside0.mk hb); clear ho hb)
  go_ret
  exact ⟨_, rfl, Kd.R_lower HO.out (by simp), below_step (below_alloc (Below.refl _ _) _) HB.out⟩
end Go.Proofs.Ytmheflciiodhdaa.P
-- Written by wip/tools/mkprint.py of this repo, over the kit's print, out of the translation; Lean checks it.
namespace Go.Proofs.Ytmheflciiodhdaa.P
open Go.RowKit Go.Proofs.YtmheflciiodhdaaW.PrintWords Go.Proofs.YtmheflciiodhdaaW.PrintLast Go.Proofs.YtmheflciiodhdaaW.PrintMore
attribute [local go_sem] max2_int min2_int max_two min_two max_three min_three max_four min_four   -- for this text's walks alone
set_option linter.unusedVariables false
set_option linter.unusedSimpArgs false
/-! ### impl_MissedWalks: given -/
theorem Missed_cnt (w : World) (xs : List S38) : CntW 72 #[] (fun _ => -1) xs w := by
  refine ⟨enters_of Try.func72 (by kernel_rfl) rfl, fun W hW x hm => ?_⟩
  show Calls Try.prog 72 #[encW x] W _
  have hu := Try.underlying38
  unfold encW
  go_enter Try.func72, Try.ntmps72
  go_wp2
  go_ret
  exact ⟨rfl, below_alloc (Below.refl _ _) _⟩
theorem C_oneW {w : World} {g : Nat} {x : S38} (h : w.heap[g]? = some (.cells #[.int .i16 x.f0, .int .i16 x.f1, .int .i16 x.f2, .int .i16 x.f3, .int .i16 x.f4, .int .i8 x.f5] 38 (0, 0))) : Kd.C k38 w (some ⟨g, 0, none⟩) [x].length [x] := by
  refine ⟨rfl, by simp, fun _ => ⟨_, rfl, fun j p hj => ?_⟩⟩
  match j, hj with
  | 0, hj =>
    obtain rfl : x = p := by simpa using hj
    refine ⟨_, k38.K_len (k38_mk w x), k38_mk w x, fun i u hi => ?_⟩
    have e : (⟨g, 0, none⟩ : Addr).add (0 * k38.sz + i) = ⟨g, i, none⟩ := by simp [Addr.add]; intro h; simp [h]
    rw [e, blk_cell h i]
    simpa using hi
theorem walked_one (k : Nat) (A0 : Option Addr) (c0 : Nat) (l0 : List Int) (g : Nat) (x : S38) (fid : Nat) (lb : Array Value) (f : S38 → Int) (r : List Int) (w : World)
    (hr0 : Kd.C (Kd.int .u8) w A0 l0.length l0) (hb : w.heap[g]? = some (.cells #[.int .i16 x.f0, .int .i16 x.f1, .int .i16 x.f2, .int .i16 x.f3, .int .i16 x.f4, .int .i8 x.f5] 38 (0, 0))) (hp : CntW fid lb f [x] w) (h : walkedF k l0 [x] f = some r) :
    Calls Try.prog 70 #[.slice A0 l0.length c0, .slice (some ⟨g, 0, none⟩) 1 1, .func (.func fid) #[] lb] w fun e w' => ∃ v0_ : Value, e = .returned (v0_) ∧ Kd.R (Kd.int .u8) 5 w' w.heap.size (fun _ => True) v0_ r ∧ Below w.heap.size w w' :=
  walked_calls k A0 c0 l0 (some ⟨g, 0, none⟩) 1 [x] fid lb f r w hr0 (C_oneW hb) hp h
def missDays (x : S38) (i : Int) : Nat → Int → List S40 → Option (List S40)
  | 0, _, acc => some acc
  | n + 1, d, acc => (impl_Walker_comes.f x.f0 x.f1 x.f2 x.f3 x.f4 x.f5 d).bind fun b => missDays x i n (d + 1) (if b = true then acc ++ [⟨i, d⟩] else acc)
def missAll (k : Nat) (l0 : List Int) (l1 : List S38) (day : Int) (seen : List Int) : List S38 → Int → List S40 → Option (List S40)
  | [], _, acc => some acc
  | x :: r, i, acc => (impl_rowOn.f k l0 l1 day).bind fun row => (walkedF k row [x] (fun _ => -1)).bind fun wo => (impl_Row_uint8_73.f k wo seen).bind fun q => (if q = true then missDays x i (day + 1).toNat 0 acc else some acc).bind fun acc' => missAll k l0 l1 day seen r (i + 1) acc'
def missCode (l0 : List Int) (l1 : List S38) (a2 : Int) (l3 : List Int) : Int := codeB (rowOkB l0 l1 && (validRow l3 && ((l3.length : Int) == (l0.length : Int)))) (inR 0 400 a2)
def impl_MissedWalks.f (k : Nat) (l0 : List Int) (l1 : List S38) (a2 : Int) (l3 : List Int) : Option (List S40 × Int) :=
  if missCode l0 l1 a2 l3 = 0 then (missAll k l0 l1 a2 l3 l1 0 []).bind fun r => some (r, 0) else some ([], missCode l0 l1 a2 l3)
theorem missAll_mono {l0 : List Int} {l1 : List S38} {day : Int} {seen : List Int} (k : Nat) : ∀ (r : List S38) (i : Int) (acc : List S40), LeO (missAll k l0 l1 day seen r i acc) (missAll (k + 1) l0 l1 day seen r i acc)
  | [], _, _ => LeO.refl _
  | _ :: r, _, _ => LeO.bind (impl_rowOn.mono _ _ _ k) (fun _ => LeO.bind (walkedF_mono k) (fun _ => LeO.bind (impl_Row_uint8_73.mono _ _ k) (fun _ => LeO.bind (LeO.refl _) (fun _ => missAll_mono k r _ _))))
theorem impl_MissedWalks.mono : ∀ a0 a1 a2 a3 k, LeO (impl_MissedWalks.f k a0 a1 a2 a3) (impl_MissedWalks.f (k + 1) a0 a1 a2 a3) := fun _ _ _ _ k => LeO.ite (LeO.bind (missAll_mono k _ _ _) (fun _ => LeO.refl _)) (LeO.refl _)
set_option maxHeartbeats 8000000 in
set_option maxRecDepth 100000 in
theorem impl_MissedWalks.calls (k : Nat) (A0 : Option Addr) (c0 : Nat) (l0 : List Int) (A1 : Option Addr) (c1 : Nat) (l1 : List S38) (a2 : Int) (A3 : Option Addr) (c3 : Nat) (l3 : List Int) (r1 : List S40) (r2 : Int) (w : World) (hr0 : Kd.C (Kd.int .u8) w A0 l0.length l0) (hc0 : l0.length ≤ c0) (hr1 : Kd.C k38 w A1 l1.length l1) (hc1 : l1.length ≤ c1) (hr3 : Kd.C (Kd.int .u8) w A3 l3.length l3) (hc3 : l3.length ≤ c3) (h : impl_MissedWalks.f k l0 l1 a2 l3 = some (r1, r2)) :
    Calls Try.prog 13 #[.slice A0 l0.length c0, .slice A1 l1.length c1, .int .i64 a2, .slice A3 l3.length c3] w fun e w' => ∃ v0_ : Value, e = .returned (.tuple #[v0_, .int .i64 r2]) ∧ Kd.R k40 40 w' w.heap.size (fun _ => True) v0_ r1 ∧ Below w.heap.size w w' := by
  have HR0 := Aside0.mk hr0
  have HR1 := Aside0.mk hr1
  have HR3 := Aside0.mk hr3
  have HC0 := Aside0.mk hc0
  have HC1 := Aside0.mk hc1
  have HC3 := Aside0.mk hc3
  have HB := Aside0.mk (Below.refl w.heap.size w)
  clear hr0 hr1 hr3 hc0 hc1 hc3
  have hu := Try.underlying38
  by_cases hcode : missCode l0 l1 a2 l3 = 0
  · unfold impl_MissedWalks.f at h
    rw [if_pos hcode] at h
    obtain ⟨r, hf, h2⟩ := Option.bind_eq_some_iff.mp h
    simp only [Option.some.injEq, Prod.mk.injEq] at h2
    obtain ⟨rfl, rfl⟩ := h2
    have HF := Aside0.mk hf
    have HCD := Aside0.mk (show impl_codeOf.f (rowOkB l0 l1 && (validRow l3 && ((l3.length : Int) == (l0.length : Int)))) (inR 0 400 a2) = some 0 by rw [codeOf_codeB]; exact congrArg some hcode)
    obtain ⟨hb1, hb2⟩ : (rowOkB l0 l1 && (validRow l3 && ((l3.length : Int) == (l0.length : Int)))) = true ∧ inR 0 400 a2 = true := by
      unfold missCode codeB at hcode
      constructor
      · cases hh : (rowOkB l0 l1 && (validRow l3 && ((l3.length : Int) == (l0.length : Int)))) with
        | true => rfl
        | false => rw [hh] at hcode; simp at hcode
      · cases hh : inR 0 400 a2 with
        | true => rfl
        | false => rw [hh] at hcode; split at hcode <;> simp at hcode
    simp only [Bool.and_eq_true] at hb1
    obtain ⟨hk, hv, he⟩ := hb1
    have hday : 0 ≤ a2 ∧ a2 ≤ 400 := by simpa [inR] using hb2
    have h8 : l1.length ≤ 8 := by
      simp only [rowOkB, validWalkers, Bool.and_eq_true, decide_eq_true_eq] at hk
      have := hk.2.1.2
      omega
    rw [hk, hv, he, hb2] at HCD
    have HK := Aside0.mk (show impl_rowOk.f l0 l1 = some true by rw [rowOk_rowOkB, hk])
    have HV := Aside0.mk (show impl_ValidRow.f l3 = some true by unfold impl_ValidRow.f; rw [hv])
    have HI := Aside0.mk (show impl_within.f a2 0 400 = some true by rw [within_inR, hb2])
    have HE := Aside0.mk he
    clear h hf hcode hk hv hb2 he
    obtain ⟨hd0, hd1⟩ := hday
    go_enter Try.func13, Try.ntmps13
    have he : ((l3.length : Int) == (l0.length : Int)) = true := HE.out
    go_wp2_with (first
      | (go_at_call 68; refine (impl_rowOk.calls A0 c0 l0 A1 c1 l1 _ _ HR0.out HC0.out HR1.out HC1.out HK.out).mono ?_; rintro e w2 ⟨rfl, hb⟩; (have HB2 := Aside0.mk hb); clear HB hb)
      | (go_at_call 50; refine (impl_ValidRow.calls A3 c3 l3 _ _ (Kd.C_below HR3.out HB2.out) HC3.out HV.out).mono ?_; rintro e w3 ⟨rfl, ⟨nd3, rfl⟩⟩)
      | (go_at_call 69; refine (impl_within.calls _ _ _ _ _ HI.out).mono ?_; rintro e w4 ⟨rfl, ⟨nd4, rfl⟩⟩)
      | (go_at_call 67; refine (impl_codeOf.calls _ _ _ _ HCD.out).mono ?_; rintro e w5 ⟨rfl, ⟨nd5, rfl⟩⟩)
      | ((with_reducible refine gate_dst (N := 36) rfl ?_); refine Kd.R_lit k40 (w0 := w) w.heap.size 40 rfl (N := 36) rfl (xs := ([] : List S40)) (inner := []) (ok := fun _ => True) (okp := fun _ => True) ?hr (Reps.none _ _) (fun _ hk => hk) trivial (by repeat (first | exact HB2.out | apply pw_below_drewN)) (below_size (by repeat (first | exact HB2.out | apply pw_below_drewN))) (by simp) ?_; (case hr => first | (go_simp; done) | (go_simp; rfl)); intro v36 w36 ho36 hb36 _ _; (have HO := Aside0.mk ho36); (have HB := Aside0.mk hb36); clear ho36 hb36 HB2))
    go_loopw [11, 12, 13, 14, 15, 39] (fun v11 v12 v13 v14 v15 v39 w' => ∃ (i : Nat) (acc : List S40), i ≤ l1.length ∧ v39 = .int .i64 i ∧ Aside0 (missAll k l0 l1 a2 l3 (l1.drop i) i acc = some r) ∧ Aside0 (acc.length ≤ 1000 * i) ∧ Aside0 (Kd.R k40 40 w' w.heap.size (fun _ => True) v11 acc) ∧ Aside0 (Below w.heap.size w w')) (fun _ _ _ _ _ v39 _ => l1.length - (intOf v39).toNat)
    case atStart => exact ⟨0, [], Nat.zero_le _, rfl, ⟨by simpa using HF.out⟩, ⟨by simp⟩, HO, HB⟩
    case round =>
      clear HO HB HF he
      obtain ⟨i, acc, hi, rfl, HF, HLA, HO, HB⟩ := hrel
      have hsz := HB.out.size
      by_cases hlt : i < l1.length
      · have hF1 := HF.out
        rw [drop_rdW hlt] at hF1
        obtain ⟨row, hrow, hF2⟩ := Option.bind_eq_some_iff.mp hF1
        obtain ⟨wo, hwo, hF3⟩ := Option.bind_eq_some_iff.mp hF2
        obtain ⟨q, hq, hF4⟩ := Option.bind_eq_some_iff.mp hF3
        obtain ⟨acc', hacc, hF5⟩ := Option.bind_eq_some_iff.mp hF4
        have HROW := Aside0.mk hrow
        have HWO := Aside0.mk hwo
        have HQ := Aside0.mk hq
        have HACC := Aside0.mk hacc
        have HF' := Aside0.mk hF5
        clear hrow hwo hq hacc hF1 hF2 hF3 hF4 hF5 HF
        obtain ⟨ad, rfl, h0, h1, h2, h3, h4, h5⟩ := at_T38 (Kd.C_below HR1.out HB.out) (i : Int) (by omega) (by omega)
        simp only [Int.toNat_natCast] at h0 h1 h2 h3 h4 h5
        have HAD := Aside0.mk (show (some ad).isSome = true from rfl)
        generalize rd_T38 l1 (i : Int) = X at *
        have q1 := eq_true (show (i : Int) < (l1.length : Int) by omega)
        obtain ⟨wp0, rfl⟩ : ∃ wo : World, wo = wr := ⟨_, rfl⟩
        go_wp2_with (first
          | ((with_reducible refine gate_dst (N := 13) rfl ?_); refine box_event ?hg (N := 13) ?hd (cs := #[.int .i16 0, .int .i16 0, .int .i16 0, .int .i16 0, .int .i16 0, .int .i8 0]) (t := 38) ?hr ?_; (case hd => rfl); (case hg => rfl); (case hr => first | (go_simp; done) | (go_simp; rfl)); intro gb hg w26 hbox hb; (have HO2 := Aside0.mk (Kd.R_below HO.out hb)); (have HB2 := Aside0.mk (below_step HB.out hb)); (have BK := Aside0.mk hbox); (have GW := Aside0.mk (show w.heap.size ≤ gb by omega)); clear hb hg HO HB; (have hcz0 : w26.cell? ⟨gb, 0, none⟩ = some (.int .i16 0) := (blk_cell BK.out 0).trans rfl); (have hcz1 : w26.cell? ⟨gb, 1, none⟩ = some (.int .i16 0) := (blk_cell BK.out 1).trans rfl); (have hcz2 : w26.cell? ⟨gb, 2, none⟩ = some (.int .i16 0) := (blk_cell BK.out 2).trans rfl); (have hcz3 : w26.cell? ⟨gb, 3, none⟩ = some (.int .i16 0) := (blk_cell BK.out 3).trans rfl); (have hcz4 : w26.cell? ⟨gb, 4, none⟩ = some (.int .i16 0) := (blk_cell BK.out 4).trans rfl); (have hcz5 : w26.cell? ⟨gb, 5, none⟩ = some (.int .i8 0) := (blk_cell BK.out 5).trans rfl); (have hfz0 := blk_frozen BK.out 0; have hfz1 := blk_frozen BK.out 1; have hfz2 := blk_frozen BK.out 2; have hfz3 := blk_frozen BK.out 3; have hfz4 := blk_frozen BK.out 4; have hfz5 := blk_frozen BK.out 5); clear hbox))
        have BK6 := Aside0.mk (show ((((((w26.setCell ⟨gb, 0, none⟩ (.int .i16 X.f0)).setCell ⟨gb, 1, none⟩ (.int .i16 X.f1)).setCell ⟨gb, 2, none⟩ (.int .i16 X.f2)).setCell ⟨gb, 3, none⟩ (.int .i16 X.f3)).setCell ⟨gb, 4, none⟩ (.int .i16 X.f4)).setCell ⟨gb, 5, none⟩ (.int .i8 X.f5)).heap[gb]? = some (.cells #[.int .i16 X.f0, .int .i16 X.f1, .int .i16 X.f2, .int .i16 X.f3, .int .i16 X.f4, .int .i8 X.f5] 38 (0, 0)) from blk_put (blk_put (blk_put (blk_put (blk_put (blk_put BK.out 0 (.int .i16 X.f0) rfl) 1 (.int .i16 X.f1) rfl) 2 (.int .i16 X.f2) rfl) 3 (.int .i16 X.f3) rfl) 4 (.int .i16 X.f4) rfl) 5 (.int .i8 X.f5) rfl)
        have HO6 := Aside0.mk (show Kd.R k40 40 ((((((w26.setCell ⟨gb, 0, none⟩ (.int .i16 X.f0)).setCell ⟨gb, 1, none⟩ (.int .i16 X.f1)).setCell ⟨gb, 2, none⟩ (.int .i16 X.f2)).setCell ⟨gb, 3, none⟩ (.int .i16 X.f3)).setCell ⟨gb, 4, none⟩ (.int .i16 X.f4)).setCell ⟨gb, 5, none⟩ (.int .i8 X.f5)) w.heap.size (fun _ => True) u11 acc from Kd.R_mono (Kd.R_far (p := ⟨gb, 5, none⟩) (Kd.R_far (p := ⟨gb, 4, none⟩) (Kd.R_far (p := ⟨gb, 3, none⟩) (Kd.R_far (p := ⟨gb, 2, none⟩) (Kd.R_far (p := ⟨gb, 1, none⟩) (Kd.R_far (p := ⟨gb, 0, none⟩) (Kd.R_types HO2.out BK.out (by decide)) (fun _ hk => hk.2) _) (fun _ hk => hk.2) _) (fun _ hk => hk.2) _) (fun _ hk => hk.2) _) (fun _ hk => hk.2) _) (fun _ hk => hk.2) _) (fun _ _ => trivial))
        have HB6 := Aside0.mk (show Below w.heap.size w ((((((w26.setCell ⟨gb, 0, none⟩ (.int .i16 X.f0)).setCell ⟨gb, 1, none⟩ (.int .i16 X.f1)).setCell ⟨gb, 2, none⟩ (.int .i16 X.f2)).setCell ⟨gb, 3, none⟩ (.int .i16 X.f3)).setCell ⟨gb, 4, none⟩ (.int .i16 X.f4)).setCell ⟨gb, 5, none⟩ (.int .i8 X.f5)) from below_set (below_set (below_set (below_set (below_set (below_set HB2.out GW.out) GW.out) GW.out) GW.out) GW.out) GW.out)
        clear HO2 HB2 BK GW hcz0 hcz1 hcz2 hcz3 hcz4 hcz5 hfz0 hfz1 hfz2 hfz3 hfz4 hfz5 h0 h1 h2 h3 h4 h5 hsz
        generalize ((((((w26.setCell ⟨gb, 0, none⟩ (.int .i16 X.f0)).setCell ⟨gb, 1, none⟩ (.int .i16 X.f1)).setCell ⟨gb, 2, none⟩ (.int .i16 X.f2)).setCell ⟨gb, 3, none⟩ (.int .i16 X.f3)).setCell ⟨gb, 4, none⟩ (.int .i16 X.f4)).setCell ⟨gb, 5, none⟩ (.int .i8 X.f5)) = w1 at *
        have hcf := fun i => blk_cell BK6.out i
        have hcf0 := hcf 0; have hcf1 := hcf 1; have hcf2 := hcf 2; have hcf3 := hcf 3; have hcf4 := hcf 4; have hcf5 := hcf 5; clear hcf; simp at hcf0 hcf1 hcf2 hcf3 hcf4 hcf5
        go_region_with (first
          | (go_at_call 71; refine (impl_rowOn.calls k A0 c0 l0 (some ad) c1 l1 a2 row _ (Kd.C_below HR0.out (by repeat (first | exact HB6.out | apply below_alloc | apply pw_below_drewN | apply below_drew1))) HC0.out (Kd.C_below HR1.out (by repeat (first | exact HB6.out | apply below_alloc | apply pw_below_drewN | apply below_drew1))) HC1.out HROW.out).mono ?_; rintro e w2 ⟨v2, rfl, ho2, hb2⟩; obtain ⟨A2, c2, rfl⟩ := Kd.R_slice ho2; (have HRW := Aside0.mk (Kd.R_reads' ho2).2.2); (have HO7 := Aside0.mk (Kd.R_below (by (repeat (first | exact HO6.out | apply Kd.R_alloc | apply Kd.R_drewN | apply Kd.R_drew))) hb2)); (have BK7 := Aside0.mk (blk_below (by repeat (first | exact BK6.out | apply blk_alloc | apply blk_drewN | apply blk_drew)) hb2)); (have HB7 := Aside0.mk (below_step (by repeat (first | exact HB6.out | apply below_alloc | apply pw_below_drewN | apply below_drew1)) hb2)); (have HH2 := Aside0.mk hb2); (have hcb := fun i => blk_cell BK7.out i); (have hcb0 := hcb 0; have hcb1 := hcb 1; have hcb2 := hcb 2; have hcb3 := hcb 3; have hcb4 := hcb 4; have hcb5 := hcb 5; clear hcb; simp at hcb0 hcb1 hcb2 hcb3 hcb4 hcb5); clear ho2 hb2)
          | (go_at_call 70; refine (walked_one k A2 c2 row _ X _ _ (fun _ => -1) wo _ (Kd.C_below HRW.out (by repeat (first | exact Below.refl _ _ | apply below_alloc | apply pw_below_drewN | apply below_drew1))) (by first | exact heap_alloc_new _ _ | exact (HH2.out.block _ (by simp)).trans (heap_alloc_new _ _)) (Missed_cnt _ _) HWO.out).mono ?_; rintro e w3 ⟨v3, rfl, ho3, hb3⟩; (have HW := Aside0.mk (Kd.R_lower ho3 (below_size (by repeat (first | exact HB7.out | apply below_alloc | apply pw_below_drewN | apply below_drew1))))); (have HO8 := Aside0.mk (Kd.R_below (by (repeat (first | exact HO7.out | apply Kd.R_alloc | apply Kd.R_drewN | apply Kd.R_drew))) hb3)); (have BK8 := Aside0.mk (blk_below (by repeat (first | exact BK7.out | apply blk_alloc | apply blk_drewN | apply blk_drew)) hb3)); (have HB8 := Aside0.mk (below_step (by repeat (first | exact HB7.out | apply below_alloc | apply pw_below_drewN | apply below_drew1)) hb3)); clear ho3 hb3 HO7 BK7 HB7 hcb0 hcb1 hcb2 hcb3 hcb4 hcb5))
        all_goals
          obtain ⟨A4, c4, rfl⟩ := Kd.R_slice HW.out
          have hHL : acc.length ≤ 1000 * i := HLA.out
          clear HO6 BK6 HB6 HRW HH2 hcf0 hcf1 hcf2 hcf3 hcf4 hcf5 HROW HWO
          cases q with
          | true =>
            have HACC2 := Aside0.mk (show missDays X (i : Int) (a2 + 1 - 0).toNat 0 acc = some acc' by have := HACC.out; simpa using this)
            clear HACC
            go_wp2
            go_loopw [11, 15] (fun v11 v15 w' => ∃ (d : Int) (ac : List S40), 0 ≤ d ∧ d ≤ a2 + 1 ∧ v15 = .int .i64 d ∧ Aside0 (missDays X (i : Int) (a2 + 1 - d).toNat d ac = some acc') ∧ Aside0 ((ac.length : Int) ≤ 1000 * i + d) ∧ Aside0 (Kd.R k40 40 w' w.heap.size (fun _ => True) v11 ac) ∧ Aside0 (Kd.R (Kd.int .u8) 5 w' w.heap.size (fun _ => True) (.slice A4 wo.length c4) wo) ∧ Aside0 (w'.heap[gb]? = some (.cells #[.int .i16 X.f0, .int .i16 X.f1, .int .i16 X.f2, .int .i16 X.f3, .int .i16 X.f4, .int .i8 X.f5] 38 (0, 0))) ∧ Aside0 (Below w.heap.size w w')) (fun _ v15 _ => (a2 + 1 - intOf v15).toNat)
            case atStart => exact ⟨0, acc, by omega, by omega, rfl, HACC2, ⟨by omega⟩, HO8, HW, BK8, HB8⟩
            case round =>
              clear HACC2 HO8 HW BK8 HB8
              obtain ⟨d, ac, hd0', hd1', rfl, HM, HAL, HO, HW, BK, HB⟩ := hrel
              have hcb := fun i => blk_cell BK.out i
              have hcb0 := hcb 0; have hcb1 := hcb 1; have hcb2 := hcb 2; have hcb3 := hcb 3; have hcb4 := hcb 4; have hcb5 := hcb 5; clear hcb; simp at hcb0 hcb1 hcb2 hcb3 hcb4 hcb5
              obtain ⟨wq, rfl⟩ : ∃ wo : World, wo = wr := ⟨_, rfl⟩
              by_cases hle : d ≤ a2
              · have hM := HM.out
                rw [show (a2 + 1 - d).toNat = (a2 + 1 - (d + 1)).toNat + 1 by omega] at hM
                obtain ⟨b, hb, hM2⟩ := Option.bind_eq_some_iff.mp hM
                have HBB := Aside0.mk hb
                have HM2 := Aside0.mk hM2
                clear hb hM hM2 HM
                have q2 := eq_true hle
                cases b with
                | false =>
                  go_wp2_with (first
                    | (go_at_call 73; refine (impl_Row_uint8_73.calls k A4 c4 wo A3 c3 l3 _ _ (Kd.R_reads' HW.out).2.2 (Kd.R_reads' HW.out).2.1 (Kd.C_below HR3.out HB.out) HC3.out HQ.out).mono ?_; rintro e w4 ⟨rfl, ⟨nd, rfl⟩⟩)
                    | (go_at_call 74; refine (impl_Walker_comes.calls _ _ _ _ _ _ _ _ _ HBB.out).mono ?_; rintro e w5 ⟨rfl, hb5⟩; (have HO9 := Aside0.mk (Kd.R_below (Kd.R_drewN HO.out nd) hb5)); (have HW9 := Aside0.mk (Kd.R_below (Kd.R_drewN HW.out nd) hb5)); (have BK9 := Aside0.mk (blk_below (blk_drewN BK.out nd) hb5)); (have HB9 := Aside0.mk (below_step (pw_below_drewN HB.out nd) hb5)); clear hb5 HO HW BK HB hcb0 hcb1 hcb2 hcb3 hcb4 hcb5))
                  go_roundw
                  case rel => exact ⟨d + 1, ac, by omega, by omega, by go_num, ⟨by simpa using HM2.out⟩, ⟨by have := HAL.out; omega⟩, HO9, HW9, BK9, HB9⟩
                  case measure => simp [intOf]; omega
                | true =>
                  go_wp2_with (first
                    | (go_at_call 73; refine (impl_Row_uint8_73.calls k A4 c4 wo A3 c3 l3 _ _ (Kd.R_reads' HW.out).2.2 (Kd.R_reads' HW.out).2.1 (Kd.C_below HR3.out HB.out) HC3.out HQ.out).mono ?_; rintro e w4 ⟨rfl, ⟨nd, rfl⟩⟩)
                    | (go_at_call 74; refine (impl_Walker_comes.calls _ _ _ _ _ _ _ _ _ HBB.out).mono ?_; rintro e w5 ⟨rfl, hb5⟩; (have HO9 := Aside0.mk (Kd.R_below (Kd.R_drewN HO.out nd) hb5)); (have HW9 := Aside0.mk (Kd.R_below (Kd.R_drewN HW.out nd) hb5)); (have BK9 := Aside0.mk (blk_below (blk_drewN BK.out nd) hb5)); (have HB9 := Aside0.mk (below_step (pw_below_drewN HB.out nd) hb5)); clear hb5 HO HW BK HB hcb0 hcb1 hcb2 hcb3 hcb4 hcb5)
                    | (at_builtin; refine Kd.R_append k40 (w0 := w) w.heap.size rfl (.tmp 64) (.tmp 68) 31 40 (.agg #[(.int .i64 0), (.int .i64 0)]) 16 rfl Try.underlying31 info40 rfl (by decide) (by omega) _ ac (⟨(i : Int), d⟩ : S40) [.int .i64 (i : Int), .int .i64 d] (fun _ => True) (fun _ => False) rfl rfl (k40_mkM _ _ _ (⟨(i : Int), d⟩ : S40)) (fun _ hk => hk.elim) (fun _ _ => trivial) HO9.out HB9.out HB9.out.size (by have := HAL.out; omega) ?_; intro v69 w69 ho69 hb69 hg69 _; (have HO10 := Aside0.mk ho69); (have HB10 := Aside0.mk hb69); (have HW10 := Aside0.mk (Kd.R_over' HW9.out (Kd.R_typed HO9.out) (by decide) hg69)); (have BK10 := Aside0.mk (blk_grown BK9.out hg69 (Kd.R_ne HO9.out BK9.out (by decide)))); clear ho69 hb69 hg69 HO9 HB9 HW9 BK9))
                  go_roundw
                  case rel => exact ⟨d + 1, ac ++ [⟨(i : Int), d⟩], by omega, by omega, by go_num, ⟨by simpa using HM2.out⟩, ⟨by have := HAL.out; simp; omega⟩, HO10, HW10, BK10, HB10⟩
                  case measure => simp [intOf]; omega
              · have hM := HM.out
                rw [show (a2 + 1 - d).toNat = 0 by omega] at hM
                obtain rfl := Option.some.inj hM
                have q2 : (d ≤ a2) = False := eq_false hle
                clear hM HM
                go_wp2
                go_roundw
                case rel => exact ⟨i + 1, ac, by omega, by go_num, ⟨by simpa using HF'.out⟩, ⟨by have := HAL.out; omega⟩, HO, HB⟩
                case measure => simp [intOf]; omega
          | false =>
            obtain rfl := Option.some.inj (show some acc = some acc' by have := HACC.out; simpa using this)
            clear HACC
            go_wp2
            go_loopw [11, 15] (fun v11 v15 w' => v11 = u11 ∧ v15 = .int .i64 0 ∧ w' = w3) (fun _ _ _ => 0)
            case atStart => exact ⟨rfl, rfl, rfl⟩
            case round =>
              obtain ⟨rfl, rfl, rfl⟩ := hrel
              go_wp2_with (go_at_call 73; refine (impl_Row_uint8_73.calls k A4 c4 wo A3 c3 l3 _ _ (Kd.R_reads' HW.out).2.2 (Kd.R_reads' HW.out).2.1 (Kd.C_below HR3.out HB8.out) HC3.out HQ.out).mono ?_; rintro e w4 ⟨rfl, ⟨nd, rfl⟩⟩)
              go_roundw
              case rel => exact ⟨i + 1, acc, by omega, by go_num, ⟨by simpa using HF'.out⟩, ⟨by omega⟩, ⟨Kd.R_drewN HO8.out _⟩, ⟨pw_below_drewN HB8.out _⟩⟩
              case measure => simp [intOf]; omega
      · have hF := HF.out
        rw [List.drop_eq_nil_of_le (by omega)] at hF
        obtain rfl := Option.some.inj hF
        have q1 : ((i : Int) < (l1.length : Int)) = False := eq_false (by omega)
        clear hF HF
        go_wp2
        go_ret2
        exact ⟨_, rfl, HO.out, HB.out⟩
  · unfold impl_MissedWalks.f at h
    rw [if_neg hcode] at h
    simp only [Option.some.injEq, Prod.mk.injEq] at h
    obtain ⟨rfl, rfl⟩ := h
    have HK := Aside0.mk (rowOk_rowOkB l0 l1)
    have HV := Aside0.mk (show impl_ValidRow.f l3 = some (validRow l3) from rfl)
    have HI := Aside0.mk (within_inR a2 0 400)
    have HCD := Aside0.mk (codeOf_codeB (rowOkB l0 l1 && (validRow l3 && ((l3.length : Int) == (l0.length : Int)))) (inR 0 400 a2))
    unfold missCode at *
    have hne : (codeB (rowOkB l0 l1 && (validRow l3 && ((l3.length : Int) == (l0.length : Int)))) (inR 0 400 a2) != 0) = true := bne_iff_ne.mpr hcode
    clear hcode
    cases h1 : rowOkB l0 l1 <;> cases h2 : validRow l3 <;> simp only [h1, h2, Bool.true_and, Bool.false_and] at HK HV HCD hne ⊢
    all_goals
      clear h1 h2
      go_enter Try.func13, Try.ntmps13
      go_wp2_with (first
        | (go_at_call 68; refine (impl_rowOk.calls A0 c0 l0 A1 c1 l1 _ _ HR0.out HC0.out HR1.out HC1.out HK.out).mono ?_; rintro e w2 ⟨rfl, hb⟩; (have HB2 := Aside0.mk hb); clear HB hb)
        | (go_at_call 50; refine (impl_ValidRow.calls A3 c3 l3 _ _ (Kd.C_below HR3.out HB2.out) HC3.out HV.out).mono ?_; rintro e w3 ⟨rfl, ⟨nd3, rfl⟩⟩)
        | (go_at_call 69; refine (impl_within.calls _ _ _ _ _ HI.out).mono ?_; rintro e w4 ⟨rfl, ⟨nd4, rfl⟩⟩)
        | (go_at_call 67; refine (impl_codeOf.calls _ _ _ _ HCD.out).mono ?_; rintro e w5 ⟨rfl, ⟨nd5, rfl⟩⟩))
      go_ret2
      exact ⟨_, rfl, Kd.R_nil _ _ _ _ _, (by repeat (first | exact HB2.out | apply pw_below_drewN))⟩
end Go.Proofs.Ytmheflciiodhdaa.P
-- Written by wip/tools/mkprint.py of this repo, over the kit's print, out of the translation; Lean checks it.
namespace Go.Proofs.Ytmheflciiodhdaa.P
open Go.RowKit Go.Proofs.YtmheflciiodhdaaW.PrintWords Go.Proofs.YtmheflciiodhdaaW.PrintLast Go.Proofs.YtmheflciiodhdaaW.PrintMore
attribute [local go_sem] max2_int min2_int max_two min_two max_three min_three max_four min_four   -- for this text's walks alone
set_option linter.unusedVariables false
set_option linter.unusedSimpArgs false
/-! ### laws_eqInt64A2: given -/
def laws_eqInt64A2.f (a0_0 : Int) (a0_1 : Int) (a1_0 : Int) (a1_1 : Int) : Option Bool := some (a0_0 == a1_0 && a0_1 == a1_1)
set_option maxHeartbeats 8000000 in
set_option maxRecDepth 100000 in
theorem laws_eqInt64A2.calls (a0_0 : Int) (a0_1 : Int) (a1_0 : Int) (a1_1 : Int) (r : Bool) (w : World) (h : laws_eqInt64A2.f a0_0 a0_1 a1_0 a1_1 = some r) :
    Calls Try.prog 90 #[.agg #[.int .i64 a0_0, .int .i64 a0_1], .agg #[.int .i64 a1_0, .int .i64 a1_1]] w fun e w' => e = .returned (.bool r) ∧ Below w.heap.size w w' := by
  obtain rfl := Option.some.inj h
  clear h
  have hu := Try.underlying40
  go_enter Try.func90, Try.ntmps90
  go_wp2
  have BK0 := Aside0.mk (blk_alloc (heap_alloc_new w (.cells #[.int .i64 a0_0, .int .i64 a0_1] 40 (0, 0))) (.cells #[.int .i64 a1_0, .int .i64 a1_1] 40 (0, 0)))
  have BK1 := Aside0.mk (heap_alloc_new (w.alloc (.cells #[.int .i64 a0_0, .int .i64 a0_1] 40 (0, 0))) (.cells #[.int .i64 a1_0, .int .i64 a1_1] 40 (0, 0)))
  have HB := Aside0.mk (below_alloc (below_alloc (Below.refl w.heap.size w) (.cells #[.int .i64 a0_0, .int .i64 a0_1] 40 (0, 0))) (.cells #[.int .i64 a1_0, .int .i64 a1_1] 40 (0, 0)))
  have hc0 : ∀ i : Nat, i < 2 → ((w.alloc (.cells #[.int .i64 a0_0, .int .i64 a0_1] 40 (0, 0))).alloc (.cells #[.int .i64 a1_0, .int .i64 a1_1] 40 (0, 0))).cell? ⟨w.heap.size, i, none⟩ = some (.int .i64 (if i = 0 then a0_0 else a0_1)) := by
    intro i hi
    rw [blk_cell BK0.out i]
    match i, hi with
    | 0, _ => rfl
    | 1, _ => rfl
  have hc1 : ∀ i : Nat, i < 2 → ((w.alloc (.cells #[.int .i64 a0_0, .int .i64 a0_1] 40 (0, 0))).alloc (.cells #[.int .i64 a1_0, .int .i64 a1_1] 40 (0, 0))).cell? ⟨(w.alloc (.cells #[.int .i64 a0_0, .int .i64 a0_1] 40 (0, 0))).heap.size, i, none⟩ = some (.int .i64 (if i = 0 then a1_0 else a1_1)) := by
    intro i hi
    rw [blk_cell BK1.out i]
    match i, hi with
    | 0, _ => rfl
    | 1, _ => rfl
  have hsz : (w.alloc (.cells #[.int .i64 a0_0, .int .i64 a0_1] 40 (0, 0))).heap.size = w.heap.size + 1 := by simp
  rw [hsz] at hc1
  clear BK0 BK1 hsz
  generalize ((w.alloc (.cells #[.int .i64 a0_0, .int .i64 a0_1] 40 (0, 0))).alloc (.cells #[.int .i64 a1_0, .int .i64 a1_1] 40 (0, 0))) = w1 at *
  have HC0 := Aside0.mk hc0
  have HC1 := Aside0.mk hc1
  clear hc0 hc1
  go_loopw [5] (fun v5 w' => ∃ (i nd : Nat), i ≤ 2 ∧ v5 = .int .i64 i ∧ Aside0 (0 < i → a0_0 = a1_0) ∧ Aside0 (1 < i → a0_1 = a1_1) ∧ w' = w1.drewN nd) (fun v5 _ => 2 - (intOf v5).toNat)
  case atStart => exact ⟨0, 0, by omega, rfl, ⟨by omega⟩, ⟨by omega⟩, rfl⟩
  case round =>
    obtain ⟨i, nd, hi, rfl, E0, E1, rfl⟩ := hrel
    by_cases hlt : i < 2
    · have h0 : w1.cell? ⟨w.heap.size, i, none⟩ = _ := HC0.out i hlt
      have h1 : w1.cell? ⟨w.heap.size + 1, i, none⟩ = _ := HC1.out i hlt
      have q := eq_true (show (i : Int) < 2 by omega)
      have q0 := eq_true (show (0 : Int) ≤ (i : Int) by omega)
      by_cases he : (if i = 0 then a0_0 else a0_1) = (if i = 0 then a1_0 else a1_1)
      · have n0 : ((if i = 0 then a0_0 else a0_1) != (if i = 0 then a1_0 else a1_1)) = false := bne_eq_false_iff_eq.mpr he
        have HE : Aside0 ((i = 0 → a0_0 = a1_0) ∧ (i = 1 → a0_1 = a1_1)) := ⟨⟨fun h => by simpa [h] using he, fun h => by simpa [h] using he⟩⟩
        clear he
        generalize (if i = 0 then a0_0 else a0_1) = x at *
        generalize (if i = 0 then a1_0 else a1_1) = y at *
        go_wp2
        go_quiet (fail)
        go_wp2
        go_roundw
        case rel => exact ⟨i + 1, nd + nq, by omega, by go_num, ⟨fun _ => by
          rcases Nat.lt_or_ge 0 i with h | h
          · exact E0.out h
          · exact HE.out.1 (by omega)⟩, ⟨fun _ => HE.out.2 (by omega)⟩, by simp [World.drewN_drewN]⟩
        case measure => simp [intOf]; omega
      · have n0 : ((if i = 0 then a0_0 else a0_1) != (if i = 0 then a1_0 else a1_1)) = true := bne_iff_ne.mpr he
        have HE : Aside0 ((a0_0 == a1_0 && a0_1 == a1_1) = false) := ⟨by
          match i, hlt with
          | 0, _ => simp at he; simp [he]
          | 1, _ => simp at he; simp [he]⟩
        clear he
        generalize (if i = 0 then a0_0 else a0_1) = x at *
        generalize (if i = 0 then a1_0 else a1_1) = y at *
        go_wp2
        go_quiet (fail)
        go_wp2
        go_ret
        exact ⟨by rw [HE.out]; rfl, pw_below_drewN (pw_below_drewN HB.out _) _⟩
    · have he : (a0_0 == a1_0 && a0_1 == a1_1) = true := by simp [E0.out (by omega), E1.out (by omega)]
      have HE := Aside0.mk he
      clear he
      obtain rfl : i = 2 := by omega
      go_wp2
      go_ret
      exact ⟨by rw [HE.out]; rfl, pw_below_drewN HB.out _⟩
end Go.Proofs.Ytmheflciiodhdaa.P
-- Written by wip/tools/mkprint.py of this repo, over the kit's print, out of the translation; Lean checks it.
namespace Go.Proofs.Ytmheflciiodhdaa.P
open Go.RowKit Go.Proofs.YtmheflciiodhdaaW.PrintWords Go.Proofs.YtmheflciiodhdaaW.PrintLast Go.Proofs.YtmheflciiodhdaaW.PrintMore
attribute [local go_sem] max2_int min2_int max_two min_two max_three min_three max_four min_four   -- for this text's walks alone
set_option linter.unusedVariables false
set_option linter.unusedSimpArgs false
/-! ### laws_eqInt64A2S: function 33 -/
def laws_eqInt64A2S.l0 : Nat → List (S40) → List (S40) → Int → Option (Bool)
  | 0, _, _, _ => none
  | k + 1, x0, x1, x5 => if x5 < (x0.length : Int) then (if 0 ≤ x5 then (if x5 < (x1.length : Int) then ((laws_eqInt64A2.f ((rd_T40 x0 x5).f0) ((rd_T40 x0 x5).f1) ((rd_T40 x1 x5).f0) ((rd_T40 x1 x5).f1)).bind fun t466 => (if t466 = true then (laws_eqInt64A2S.l0 k x0 x1 (wrap64 (x5 + 1))) else (some false))) else (none)) else (none)) else (some true)
def laws_eqInt64A2S.f (k : Nat) (l0 : List (S40)) (l1 : List (S40)) : Option (Bool) := if (l0.length : Int) = (l1.length : Int) then (laws_eqInt64A2S.l0 k l0 l1 0) else (some false)
theorem laws_eqInt64A2S.mono_l : ∀ k, (∀ y0 y1 y2, LeO (laws_eqInt64A2S.l0 k y0 y1 y2) (laws_eqInt64A2S.l0 (k + 1) y0 y1 y2))
  | 0 => fun _ _ _ r h => by simp [laws_eqInt64A2S.l0] at h
  | k + 1 => by
    have ih0 := laws_eqInt64A2S.mono_l k
    · intro y0 y1 y2
      unfold laws_eqInt64A2S.l0
      repeat' first
      | (with_reducible exact ih0 _ _ _)
      | (with_reducible exact LeO.refl _)
      | (with_reducible exact LeO.none _)
      | (with_reducible refine LeO.ite ?_ ?_)
      | (with_reducible refine LeO.bind ?_ (fun _ => ?_))
      | exact ih0 _ _ _
      | exact LeO.none _
      | refine LeO.ite ?_ ?_
      | refine LeO.bind ?_ (fun _ => ?_)
theorem laws_eqInt64A2S.mono : ∀ a0 a1 k, LeO (laws_eqInt64A2S.f k a0 a1) (laws_eqInt64A2S.f (k + 1) a0 a1) := by
  intro a0 a1 k
  have ih0 := laws_eqInt64A2S.mono_l k
  unfold laws_eqInt64A2S.f
  repeat' first
      | (with_reducible exact ih0 _ _ _)
      | (with_reducible exact LeO.refl _)
      | (with_reducible exact LeO.none _)
      | (with_reducible refine LeO.ite ?_ ?_)
      | (with_reducible refine LeO.bind ?_ (fun _ => ?_))
      | exact ih0 _ _ _
      | exact LeO.none _
      | refine LeO.ite ?_ ?_
      | refine LeO.bind ?_ (fun _ => ?_)
def laws_eqInt64A2S.T6 : Bool × List (List Nat × List Nat) := (true, [([], []), ([], []), ([0, 1], [0, 1]), ([2], [2]), ([], []), ([], []), ([4, 5], [4, 5]), ([6], [6]), ([3, 7], [3, 7]), ([8], [8])])
def laws_eqInt64A2S.B6 : List Nat := [0, 0, 3, 7, 0, 0, 48, 112, 255, 511]
theorem laws_eqInt64A2S.tab6 : rtab .any (opsOf Try.f33 6) = laws_eqInt64A2S.T6 := by kernel_rfl
theorem laws_eqInt64A2S.bits6 : waitsOk laws_eqInt64A2S.T6.2 laws_eqInt64A2S.B6 = true := by kernel_rfl
set_option maxHeartbeats 8000000 in
set_option maxRecDepth 100000 in
theorem laws_eqInt64A2S.calls (k : Nat) (A0 : Option Addr) (c0 : Nat) (l0 : List (S40)) (A1 : Option Addr) (c1 : Nat) (l1 : List (S40)) (r : Bool) (w : World) (hr0 : Kd.C k40 w A0 l0.length l0) (hc0 : l0.length ≤ c0) (hr1 : Kd.C k40 w A1 l1.length l1) (hc1 : l1.length ≤ c1) (h : laws_eqInt64A2S.f k l0 l1 = some r) :
    Calls Try.prog 33 #[.slice A0 l0.length c0, .slice A1 l1.length c1] w fun e w' => e = .returned (.bool r) ∧ Below w.heap.size w w' := by
  have hu40 := Try.underlying40
  have HR0 := Aside0.mk hr0
  have HC0 := Aside0.mk hc0
  clear hr0 hc0
  have HR1 := Aside0.mk hr1
  have HC1 := Aside0.mk hc1
  clear hr1 hc1
  have HB := Aside0.mk (Below.refl w.heap.size w)
  have H : (if (l0.length : Int) = (l1.length : Int) then (laws_eqInt64A2S.l0 k l0 l1 0) else (some false)) = some r := h
  clear h
  by_cases c3 : (l0.length : Int) = (l1.length : Int)
  · rw [if_pos c3] at H
    have c3b0 : ((l0.length : Int) == (l1.length : Int)) = true := beq_iff_eq.mpr c3
    have c3b1 : ((l0.length : Int) != (l1.length : Int)) = false := bne_eq_false_iff_eq.mpr c3
    have c3b2 : (l0.length == l1.length) = true := by first | simpa using c3 | (simp at c3 ⊢; omega)
    clear c3
    have H' := Aside0.mk H
    clear H
    go_enter Try.func33, Try.ntmps33
    go_wp2
    go_loopg [5] k (fun kq v5 w' => ∃ (x5_1 : Int), v5 = .int .i64 x5_1 ∧ Aside0 (laws_eqInt64A2S.l0 kq l0 l1 x5_1 = some r) ∧ Aside0 (kq ≤ k) ∧ Aside0 (Below w.heap.size w w'))
    case atStart => exact ⟨(0), (by first | rfl | (simp; done) | (simp [*]; done)), H', ⟨Nat.le_refl _⟩, ⟨by repeat (first | (with_reducible first | exact HB.out | apply below_alloc | apply pw_below_drewN | apply below_drew1) | exact HB.out)⟩⟩
    case round =>
      clear H'
      try clear c1
      try clear p2
      try clear c3
      try clear c3b0
      try clear c3b1
      try clear c3b2
      obtain ⟨x5_1, rfl, HA, HK1, HB⟩ := hrel
      cases gk with
      | zero => exact absurd HA.out (by simp [laws_eqInt64A2S.l0])
      | succ k1 =>
        have H := HA.out
        clear HA
        simp only [laws_eqInt64A2S.l0] at H
        by_cases c4 : x5_1 < (l0.length : Int)
        · rw [if_pos c4] at H
          have c4b0 : decide (x5_1 < (l0.length : Int)) = true := decide_eq_true c4
          clear c4
          by_cases c5 : 0 ≤ x5_1
          · rw [if_pos c5] at H
            have c5b0 : decide (0 ≤ x5_1) = true := decide_eq_true c5
            clear c5
            by_cases c6 : x5_1 < (l1.length : Int)
            · rw [if_pos c6] at H
              have c6b0 : decide (x5_1 < (l1.length : Int)) = true := decide_eq_true c6
              clear c6
              replace H := Option.bind_eq_some_iff.mp H
              obtain ⟨t466, A70, H⟩ := H
              replace H : (if t466 = true then (laws_eqInt64A2S.l0 k1 l0 l1 (wrap64 (x5_1 + 1))) else (some false)) = some r := H
              have A7 := Aside0.mk A70
              clear A70
              by_cases c8 : t466 = true
              · subst c8
                have H1 : (laws_eqInt64A2S.l0 k1 l0 l1 (wrap64 (x5_1 + 1))) = some r := by rw [if_pos rfl] at H; exact H
                clear H
                have H := H1
                clear H1
                have H' := Aside0.mk H
                clear H
                try go_wp2
                have n0_ := Aside0.mk (below_drew1 HB.out)
                clear HB
                have HB := n0_
                clear n0_
                have p464 : 0 ≤ (x5_1 : Int) := of_decide_eq_true (by first | (with_reducible assumption) | assumption)
                have q464 : x5_1 < (l0.length : Int) := of_decide_eq_true (by first | (with_reducible assumption) | assumption)
                obtain ⟨ad464, e464, hx464_0, hx464_1⟩ := at_T40 HR0.out x5_1 p464 q464
                have hw464_1 := hx464_1
                have hw464_0 := hx464_0
                cases e464
                replace hx464_0 := (HB.out.cell (World.block_lt_of_cell? w _ hx464_0)).trans hx464_0
                replace hx464_1 := (HB.out.cell (World.block_lt_of_cell? w _ hx464_1)).trans hx464_1
                replace p464 := eq_true p464
                replace q464 := eq_true q464
                have p465 : 0 ≤ (x5_1 : Int) := of_decide_eq_true (by first | (with_reducible assumption) | assumption)
                have q465 : x5_1 < (l1.length : Int) := of_decide_eq_true (by first | (with_reducible assumption) | assumption)
                obtain ⟨ad465, e465, hx465_0, hx465_1⟩ := at_T40 HR1.out x5_1 p465 q465
                have hw465_1 := hx465_1
                have hw465_0 := hx465_0
                cases e465
                replace hx465_0 := (HB.out.cell (World.block_lt_of_cell? w _ hx465_0)).trans hx465_0
                replace hx465_1 := (HB.out.cell (World.block_lt_of_cell? w _ hx465_1)).trans hx465_1
                replace p465 := eq_true p465
                replace q465 := eq_true q465
                refine start_ (n := 10) (S := fun w' => w'.cell? (ad464.add ((x5_1).toNat * 2)) = some (.int .i64 ((rd_T40 l0 x5_1).f0)) ∧ w'.cell? ⟨(ad464.add ((x5_1).toNat * 2)).block, (ad464.add ((x5_1).toNat * 2)).off + 1, none⟩ = some (.int .i64 ((rd_T40 l0 x5_1).f1)) ∧ w'.cell? (ad465.add ((x5_1).toNat * 2)) = some (.int .i64 ((rd_T40 l1 x5_1).f0)) ∧ w'.cell? ⟨(ad465.add ((x5_1).toNat * 2)).block, (ad465.add ((x5_1).toNat * 2)).off + 1, none⟩ = some (.int .i64 ((rd_T40 l1 x5_1).f1))) (ds := []) #[false, false, false, false, false, false, false, false, false, false] (by kernel_rfl) rfl rfl ⟨((HB.out.cell (World.block_lt_of_cell? w _ hw464_0)).trans hw464_0), ((HB.out.cell (World.block_lt_of_cell? w _ hw464_1)).trans hw464_1), ((HB.out.cell (World.block_lt_of_cell? w _ hw465_0)).trans hw465_0), ((HB.out.cell (World.block_lt_of_cell? w _ hw465_1)).trans hw465_1)⟩ (fun hHeld => ?_); refine with_tabW laws_eqInt64A2S.tab6 laws_eqInt64A2S.bits6 (fun HT_ HW_ => ?_)
                generalize wr.drew = w9 at HB hx464_0 hx464_1 hx465_0 hx465_1 hHeld ⊢
                refine pure_ (i := 0) (N := some 17) (v := ?_) (a' := ?_) #[true, false, false, false, false, false, false, false, false, false] rfl rfl (any_of HT_.out (by kernel_rfl)) (fun _ _ _ h => h) (Or.inl ⟨by rfl, ?_⟩) ?_ ?_
                rotate_left
                · intro w'
                  go_simp
                  with_reducible rfl
                rotate_left
                · simp only [Act.put, List.setIfInBounds_toArray, List.set_cons_zero, List.set_cons_succ, i64_w, i32_w]
                  rfl
                refine pure_ (i := 1) (N := some 18) (v := ?_) (a' := ?_) #[true, true, false, false, false, false, false, false, false, false] rfl rfl (any_of HT_.out (by kernel_rfl)) (fun _ _ _ h => h) (Or.inl ⟨by rfl, ?_⟩) ?_ ?_
                rotate_left
                · intro w'
                  go_simp
                  with_reducible rfl
                rotate_left
                · simp only [Act.put, List.setIfInBounds_toArray, List.set_cons_zero, List.set_cons_succ, i64_w, i32_w]
                  rfl
                refine pure_ (i := 2) (N := some 19) (v := ?_) (a' := ?_) #[true, true, true, false, false, false, false, false, false, false] rfl rfl (any_of HT_.out (by kernel_rfl)) (fun _ _ _ h => h) (Or.inl ⟨by rfl, ?_⟩) ?_ ?_
                rotate_left
                · intro w'
                  go_simp
                  with_reducible rfl
                rotate_left
                · simp only [Act.put, List.setIfInBounds_toArray, List.set_cons_zero, List.set_cons_succ, i64_w, i32_w]
                  rfl
                refine pure_ (i := 4) (N := some 21) (v := ?_) (a' := ?_) #[true, true, true, false, true, false, false, false, false, false] rfl rfl (any_of HT_.out (by kernel_rfl)) (fun _ _ _ h => h) (Or.inl ⟨by rfl, ?_⟩) ?_ ?_
                rotate_left
                · intro w'
                  go_simp
                  with_reducible rfl
                rotate_left
                · simp only [Act.put, List.setIfInBounds_toArray, List.set_cons_zero, List.set_cons_succ, i64_w, i32_w]
                  rfl
                refine pure_ (i := 5) (N := some 22) (v := ?_) (a' := ?_) #[true, true, true, false, true, true, false, false, false, false] rfl rfl (any_of HT_.out (by kernel_rfl)) (fun _ _ _ h => h) (Or.inl ⟨by rfl, ?_⟩) ?_ ?_
                rotate_left
                · intro w'
                  go_simp
                  with_reducible rfl
                rotate_left
                · simp only [Act.put, List.setIfInBounds_toArray, List.set_cons_zero, List.set_cons_succ, i64_w, i32_w]
                  rfl
                refine pure_ (i := 6) (N := some 23) (v := ?_) (a' := ?_) #[true, true, true, false, true, true, true, false, false, false] rfl rfl (any_of HT_.out (by kernel_rfl)) (fun _ _ _ h => h) (Or.inl ⟨by rfl, ?_⟩) ?_ ?_
                rotate_left
                · intro w'
                  go_simp
                  with_reducible rfl
                rotate_left
                · simp only [Act.put, List.setIfInBounds_toArray, List.set_cons_zero, List.set_cons_succ, i64_w, i32_w]
                  rfl
                refine take_ (i := 3) (N := some 20) (v := ?_) (a' := ?_) #[true, true, true, true, true, true, true, false, false, false] rfl rfl (take_ofW HT_.out HW_.out (by kernel_rfl)) (fun _ _ _ h => h) (Or.inl ⟨by rfl, ?_⟩) hHeld ?_ ?_
                rotate_left
                · rintro w' ⟨s0, s1, s2, s3⟩
                  go_simp
                  with_reducible rfl
                rotate_left
                · simp only [Act.put, List.setIfInBounds_toArray, List.set_cons_zero, List.set_cons_succ, i64_w, i32_w]
                  rfl
                refine take_ (i := 7) (N := some 24) (v := ?_) (a' := ?_) #[true, true, true, true, true, true, true, true, false, false] rfl rfl (take_ofW HT_.out HW_.out (by kernel_rfl)) (fun _ _ _ h => h) (Or.inl ⟨by rfl, ?_⟩) hHeld ?_ ?_
                rotate_left
                · rintro w' ⟨s0, s1, s2, s3⟩
                  go_simp
                  with_reducible rfl
                rotate_left
                · simp only [Act.put, List.setIfInBounds_toArray, List.set_cons_zero, List.set_cons_succ, i64_w, i32_w]
                  rfl
                refine one_ (i := 8) (N := some 25) #[true, true, true, true, true, true, true, true, true, false] rfl rfl (one_of HT_.out (by kernel_rfl)) (by decide) (fun K hK => ?_)
                refine goes_ Try.func90 (by kernel_rfl) rfl #[.agg #[.int .i64 ((rd_T40 l0 x5_1).f0), .int .i64 ((rd_T40 l0 x5_1).f1)], .agg #[.int .i64 ((rd_T40 l1 x5_1).f0), .int .i64 ((rd_T40 l1 x5_1).f1)]] (by rfl) rfl rfl (by (try simp only [List.map_toArray, List.map_cons, List.map_nil]); first | done | rfl | (simp only [List.length_drop, List.length_take]; rfl)) ?_
                with_reducible refine (laws_eqInt64A2.calls ((rd_T40 l0 x5_1).f0) ((rd_T40 l0 x5_1).f1) ((rd_T40 l1 x5_1).f0) ((rd_T40 l1 x5_1).f1) true _ A7.out).mono ?_
                rintro e w10 ⟨rfl, hb⟩
                refine ⟨_, rfl, ?_⟩
                have n0_ := Aside0.mk (below_step (by repeat (first | (with_reducible first | exact HB.out | apply below_alloc | apply pw_below_drewN | apply below_drew1) | exact HB.out)) hb)
                clear HB
                have HB := n0_
                clear n0_
                (try clear hb)
                (try clear hb2)
                (try clear hk)
                (try clear hi)
                refine hK.out _ _ ⟨((HB.out.cell (World.block_lt_of_cell? w _ hw464_0)).trans hw464_0), ((HB.out.cell (World.block_lt_of_cell? w _ hw464_1)).trans hw464_1), ((HB.out.cell (World.block_lt_of_cell? w _ hw465_0)).trans hw465_0), ((HB.out.cell (World.block_lt_of_cell? w _ hw465_1)).trans hw465_1)⟩ (fun hHeld => ?_)
                clear hK K
                refine norm_ (a' := ?_) ?_ ?_
                rotate_left
                · show Act.put _ (some 25) _ = _
                  simp only [Act.put, List.setIfInBounds_toArray, List.set_cons_zero, List.set_cons_succ, i64_w, i32_w]
                  rfl
                refine pure_ (i := 9) (N := some 26) (v := ?_) (a' := ?_) #[true, true, true, true, true, true, true, true, true, true] rfl rfl (any_of HT_.out (by kernel_rfl)) (fun _ _ _ h => h) (Or.inl ⟨by rfl, ?_⟩) ?_ ?_
                rotate_left
                · intro w'
                  go_simp
                  with_reducible rfl
                rotate_left
                · simp only [Act.put, List.setIfInBounds_toArray, List.set_cons_zero, List.set_cons_succ, i64_w, i32_w]
                  rfl
                refine done_ (done_of HT_.out (by kernel_rfl)) ?_
                try go_wp2
                go_roundg k1
                case measure => have := HK1.out; omega
                case rel => exact ⟨(wrap64 (x5_1 + 1)), (by first | rfl | (simp; done) | (simp [*]; done)), H', ⟨by have := HK1.out; omega⟩, ⟨by repeat (first | (with_reducible first | exact HB.out | apply below_alloc | apply pw_below_drewN | apply below_drew1) | exact HB.out)⟩⟩
              · replace c8 := Bool.eq_false_iff.mpr c8
                subst c8
                have H1 : (some false) = some r := by rw [if_neg (show ¬ (false = true) by decide)] at H; exact H
                clear H
                have H := H1
                clear H1
                obtain rfl := Option.some.inj H
                try go_wp2
                have n0_ := Aside0.mk (below_drew1 HB.out)
                clear HB
                have HB := n0_
                clear n0_
                have p464 : 0 ≤ (x5_1 : Int) := of_decide_eq_true (by first | (with_reducible assumption) | assumption)
                have q464 : x5_1 < (l0.length : Int) := of_decide_eq_true (by first | (with_reducible assumption) | assumption)
                obtain ⟨ad464, e464, hx464_0, hx464_1⟩ := at_T40 HR0.out x5_1 p464 q464
                have hw464_1 := hx464_1
                have hw464_0 := hx464_0
                cases e464
                replace hx464_0 := (HB.out.cell (World.block_lt_of_cell? w _ hx464_0)).trans hx464_0
                replace hx464_1 := (HB.out.cell (World.block_lt_of_cell? w _ hx464_1)).trans hx464_1
                replace p464 := eq_true p464
                replace q464 := eq_true q464
                have p465 : 0 ≤ (x5_1 : Int) := of_decide_eq_true (by first | (with_reducible assumption) | assumption)
                have q465 : x5_1 < (l1.length : Int) := of_decide_eq_true (by first | (with_reducible assumption) | assumption)
                obtain ⟨ad465, e465, hx465_0, hx465_1⟩ := at_T40 HR1.out x5_1 p465 q465
                have hw465_1 := hx465_1
                have hw465_0 := hx465_0
                cases e465
                replace hx465_0 := (HB.out.cell (World.block_lt_of_cell? w _ hx465_0)).trans hx465_0
                replace hx465_1 := (HB.out.cell (World.block_lt_of_cell? w _ hx465_1)).trans hx465_1
                replace p465 := eq_true p465
                replace q465 := eq_true q465
                refine start_ (n := 10) (S := fun w' => w'.cell? (ad464.add ((x5_1).toNat * 2)) = some (.int .i64 ((rd_T40 l0 x5_1).f0)) ∧ w'.cell? ⟨(ad464.add ((x5_1).toNat * 2)).block, (ad464.add ((x5_1).toNat * 2)).off + 1, none⟩ = some (.int .i64 ((rd_T40 l0 x5_1).f1)) ∧ w'.cell? (ad465.add ((x5_1).toNat * 2)) = some (.int .i64 ((rd_T40 l1 x5_1).f0)) ∧ w'.cell? ⟨(ad465.add ((x5_1).toNat * 2)).block, (ad465.add ((x5_1).toNat * 2)).off + 1, none⟩ = some (.int .i64 ((rd_T40 l1 x5_1).f1))) (ds := []) #[false, false, false, false, false, false, false, false, false, false] (by kernel_rfl) rfl rfl ⟨((HB.out.cell (World.block_lt_of_cell? w _ hw464_0)).trans hw464_0), ((HB.out.cell (World.block_lt_of_cell? w _ hw464_1)).trans hw464_1), ((HB.out.cell (World.block_lt_of_cell? w _ hw465_0)).trans hw465_0), ((HB.out.cell (World.block_lt_of_cell? w _ hw465_1)).trans hw465_1)⟩ (fun hHeld => ?_); refine with_tabW laws_eqInt64A2S.tab6 laws_eqInt64A2S.bits6 (fun HT_ HW_ => ?_)
                generalize wr.drew = w11 at HB hx464_0 hx464_1 hx465_0 hx465_1 hHeld ⊢
                refine pure_ (i := 0) (N := some 17) (v := ?_) (a' := ?_) #[true, false, false, false, false, false, false, false, false, false] rfl rfl (any_of HT_.out (by kernel_rfl)) (fun _ _ _ h => h) (Or.inl ⟨by rfl, ?_⟩) ?_ ?_
                rotate_left
                · intro w'
                  go_simp
                  with_reducible rfl
                rotate_left
                · simp only [Act.put, List.setIfInBounds_toArray, List.set_cons_zero, List.set_cons_succ, i64_w, i32_w]
                  rfl
                refine pure_ (i := 1) (N := some 18) (v := ?_) (a' := ?_) #[true, true, false, false, false, false, false, false, false, false] rfl rfl (any_of HT_.out (by kernel_rfl)) (fun _ _ _ h => h) (Or.inl ⟨by rfl, ?_⟩) ?_ ?_
                rotate_left
                · intro w'
                  go_simp
                  with_reducible rfl
                rotate_left
                · simp only [Act.put, List.setIfInBounds_toArray, List.set_cons_zero, List.set_cons_succ, i64_w, i32_w]
                  rfl
                refine pure_ (i := 2) (N := some 19) (v := ?_) (a' := ?_) #[true, true, true, false, false, false, false, false, false, false] rfl rfl (any_of HT_.out (by kernel_rfl)) (fun _ _ _ h => h) (Or.inl ⟨by rfl, ?_⟩) ?_ ?_
                rotate_left
                · intro w'
                  go_simp
                  with_reducible rfl
                rotate_left
                · simp only [Act.put, List.setIfInBounds_toArray, List.set_cons_zero, List.set_cons_succ, i64_w, i32_w]
                  rfl
                refine pure_ (i := 4) (N := some 21) (v := ?_) (a' := ?_) #[true, true, true, false, true, false, false, false, false, false] rfl rfl (any_of HT_.out (by kernel_rfl)) (fun _ _ _ h => h) (Or.inl ⟨by rfl, ?_⟩) ?_ ?_
                rotate_left
                · intro w'
                  go_simp
                  with_reducible rfl
                rotate_left
                · simp only [Act.put, List.setIfInBounds_toArray, List.set_cons_zero, List.set_cons_succ, i64_w, i32_w]
                  rfl
                refine pure_ (i := 5) (N := some 22) (v := ?_) (a' := ?_) #[true, true, true, false, true, true, false, false, false, false] rfl rfl (any_of HT_.out (by kernel_rfl)) (fun _ _ _ h => h) (Or.inl ⟨by rfl, ?_⟩) ?_ ?_
                rotate_left
                · intro w'
                  go_simp
                  with_reducible rfl
                rotate_left
                · simp only [Act.put, List.setIfInBounds_toArray, List.set_cons_zero, List.set_cons_succ, i64_w, i32_w]
                  rfl
                refine pure_ (i := 6) (N := some 23) (v := ?_) (a' := ?_) #[true, true, true, false, true, true, true, false, false, false] rfl rfl (any_of HT_.out (by kernel_rfl)) (fun _ _ _ h => h) (Or.inl ⟨by rfl, ?_⟩) ?_ ?_
                rotate_left
                · intro w'
                  go_simp
                  with_reducible rfl
                rotate_left
                · simp only [Act.put, List.setIfInBounds_toArray, List.set_cons_zero, List.set_cons_succ, i64_w, i32_w]
                  rfl
                refine take_ (i := 3) (N := some 20) (v := ?_) (a' := ?_) #[true, true, true, true, true, true, true, false, false, false] rfl rfl (take_ofW HT_.out HW_.out (by kernel_rfl)) (fun _ _ _ h => h) (Or.inl ⟨by rfl, ?_⟩) hHeld ?_ ?_
                rotate_left
                · rintro w' ⟨s0, s1, s2, s3⟩
                  go_simp
                  with_reducible rfl
                rotate_left
                · simp only [Act.put, List.setIfInBounds_toArray, List.set_cons_zero, List.set_cons_succ, i64_w, i32_w]
                  rfl
                refine take_ (i := 7) (N := some 24) (v := ?_) (a' := ?_) #[true, true, true, true, true, true, true, true, false, false] rfl rfl (take_ofW HT_.out HW_.out (by kernel_rfl)) (fun _ _ _ h => h) (Or.inl ⟨by rfl, ?_⟩) hHeld ?_ ?_
                rotate_left
                · rintro w' ⟨s0, s1, s2, s3⟩
                  go_simp
                  with_reducible rfl
                rotate_left
                · simp only [Act.put, List.setIfInBounds_toArray, List.set_cons_zero, List.set_cons_succ, i64_w, i32_w]
                  rfl
                refine one_ (i := 8) (N := some 25) #[true, true, true, true, true, true, true, true, true, false] rfl rfl (one_of HT_.out (by kernel_rfl)) (by decide) (fun K hK => ?_)
                refine goes_ Try.func90 (by kernel_rfl) rfl #[.agg #[.int .i64 ((rd_T40 l0 x5_1).f0), .int .i64 ((rd_T40 l0 x5_1).f1)], .agg #[.int .i64 ((rd_T40 l1 x5_1).f0), .int .i64 ((rd_T40 l1 x5_1).f1)]] (by rfl) rfl rfl (by (try simp only [List.map_toArray, List.map_cons, List.map_nil]); first | done | rfl | (simp only [List.length_drop, List.length_take]; rfl)) ?_
                with_reducible refine (laws_eqInt64A2.calls ((rd_T40 l0 x5_1).f0) ((rd_T40 l0 x5_1).f1) ((rd_T40 l1 x5_1).f0) ((rd_T40 l1 x5_1).f1) false _ A7.out).mono ?_
                rintro e w12 ⟨rfl, hb⟩
                refine ⟨_, rfl, ?_⟩
                have n0_ := Aside0.mk (below_step (by repeat (first | (with_reducible first | exact HB.out | apply below_alloc | apply pw_below_drewN | apply below_drew1) | exact HB.out)) hb)
                clear HB
                have HB := n0_
                clear n0_
                (try clear hb)
                (try clear hb2)
                (try clear hk)
                (try clear hi)
                refine hK.out _ _ ⟨((HB.out.cell (World.block_lt_of_cell? w _ hw464_0)).trans hw464_0), ((HB.out.cell (World.block_lt_of_cell? w _ hw464_1)).trans hw464_1), ((HB.out.cell (World.block_lt_of_cell? w _ hw465_0)).trans hw465_0), ((HB.out.cell (World.block_lt_of_cell? w _ hw465_1)).trans hw465_1)⟩ (fun hHeld => ?_)
                clear hK K
                refine norm_ (a' := ?_) ?_ ?_
                rotate_left
                · show Act.put _ (some 25) _ = _
                  simp only [Act.put, List.setIfInBounds_toArray, List.set_cons_zero, List.set_cons_succ, i64_w, i32_w]
                  rfl
                refine pure_ (i := 9) (N := some 26) (v := ?_) (a' := ?_) #[true, true, true, true, true, true, true, true, true, true] rfl rfl (any_of HT_.out (by kernel_rfl)) (fun _ _ _ h => h) (Or.inl ⟨by rfl, ?_⟩) ?_ ?_
                rotate_left
                · intro w'
                  go_simp
                  with_reducible rfl
                rotate_left
                · simp only [Act.put, List.setIfInBounds_toArray, List.set_cons_zero, List.set_cons_succ, i64_w, i32_w]
                  rfl
                refine done_ (done_of HT_.out (by kernel_rfl)) ?_
                try go_wp2
                go_ret
                exact ⟨by first | rfl | (simp [errW_none, errW_some] <;> rfl) | (simp [*, errW_none, errW_some] <;> rfl), by repeat (first | (with_reducible first | exact HB.out | apply below_alloc | apply pw_below_drewN | apply below_drew1) | exact HB.out)⟩
            · rw [if_neg c6] at H
              exact absurd H (by simp)
          · rw [if_neg c5] at H
            exact absurd H (by simp)
        · rw [if_neg c4] at H
          have c4b0 : decide (x5_1 < (l0.length : Int)) = false := decide_eq_false c4
          clear c4
          obtain rfl := Option.some.inj H
          go_wp2
          go_ret
          exact ⟨by first | rfl | (simp [errW_none, errW_some] <;> rfl) | (simp [*, errW_none, errW_some] <;> rfl), by repeat (first | (with_reducible first | exact HB.out | apply below_alloc | apply pw_below_drewN | apply below_drew1) | exact HB.out)⟩
  · rw [if_neg c3] at H
    have c3b0 : ((l0.length : Int) == (l1.length : Int)) = false := beq_eq_false_iff_ne.mpr c3
    have c3b1 : ((l0.length : Int) != (l1.length : Int)) = true := bne_iff_ne.mpr c3
    have c3b2 : (l0.length == l1.length) = false := by first | simpa using c3 | (simp at c3 ⊢; omega)
    obtain rfl := Option.some.inj H
    go_enter Try.func33, Try.ntmps33
    go_wp2
    go_ret
    exact ⟨by first | rfl | (simp [errW_none, errW_some] <;> rfl) | (simp [*, errW_none, errW_some] <;> rfl), by repeat (first | (with_reducible first | exact HB.out | apply below_alloc | apply pw_below_drewN | apply below_drew1) | exact HB.out)⟩
end Go.Proofs.Ytmheflciiodhdaa.P
-- Written by wip/tools/mkprint.py of this repo, over the kit's print, out of the translation; Lean checks it.
namespace Go.Proofs.Ytmheflciiodhdaa.P
open Go.RowKit Go.Proofs.YtmheflciiodhdaaW.PrintWords Go.Proofs.YtmheflciiodhdaaW.PrintLast Go.Proofs.YtmheflciiodhdaaW.PrintMore
attribute [local go_sem] max2_int min2_int max_two min_two max_three min_three max_four min_four   -- for this text's walks alone
set_option linter.unusedVariables false
set_option linter.unusedSimpArgs false
/-! ### laws_eqRow: function 27 -/
def laws_eqRow.l0 : Nat → List Int → List Int → Int → Option (Bool)
  | 0, _, _, _ => none
  | k + 1, x0, x1, x5 => if x5 < (x0.length : Int) then (if 0 ≤ x5 then (if x5 < (x1.length : Int) then (if (rd x0 x5) = (rd x1 x5) then (laws_eqRow.l0 k x0 x1 (wrap64 (x5 + 1))) else (some false)) else (none)) else (none)) else (some true)
def laws_eqRow.f (k : Nat) (l0 : List Int) (l1 : List Int) : Option (Bool) := if (l0.length : Int) = (l1.length : Int) then (laws_eqRow.l0 k l0 l1 0) else (some false)
theorem laws_eqRow.mono_l : ∀ k, (∀ y0 y1 y2, LeO (laws_eqRow.l0 k y0 y1 y2) (laws_eqRow.l0 (k + 1) y0 y1 y2))
  | 0 => fun _ _ _ r h => by simp [laws_eqRow.l0] at h
  | k + 1 => by
    have ih0 := laws_eqRow.mono_l k
    · intro y0 y1 y2
      unfold laws_eqRow.l0
      repeat' first
      | (with_reducible exact ih0 _ _ _)
      | (with_reducible exact LeO.refl _)
      | (with_reducible exact LeO.none _)
      | (with_reducible refine LeO.ite ?_ ?_)
      | (with_reducible refine LeO.bind ?_ (fun _ => ?_))
      | exact ih0 _ _ _
      | exact LeO.none _
      | refine LeO.ite ?_ ?_
      | refine LeO.bind ?_ (fun _ => ?_)
theorem laws_eqRow.mono : ∀ a0 a1 k, LeO (laws_eqRow.f k a0 a1) (laws_eqRow.f (k + 1) a0 a1) := by
  intro a0 a1 k
  have ih0 := laws_eqRow.mono_l k
  unfold laws_eqRow.f
  repeat' first
      | (with_reducible exact ih0 _ _ _)
      | (with_reducible exact LeO.refl _)
      | (with_reducible exact LeO.none _)
      | (with_reducible refine LeO.ite ?_ ?_)
      | (with_reducible refine LeO.bind ?_ (fun _ => ?_))
      | exact ih0 _ _ _
      | exact LeO.none _
      | refine LeO.ite ?_ ?_
      | refine LeO.bind ?_ (fun _ => ?_)
set_option maxHeartbeats 8000000 in
set_option maxRecDepth 100000 in
theorem laws_eqRow.calls (k : Nat) (A0 : Option Addr) (c0 : Nat) (l0 : List Int) (A1 : Option Addr) (c1 : Nat) (l1 : List Int) (r : Bool) (w : World) (hr0 : Kd.C (Kd.int .u8) w A0 l0.length l0) (hc0 : l0.length ≤ c0) (hr1 : Kd.C (Kd.int .u8) w A1 l1.length l1) (hc1 : l1.length ≤ c1) (h : laws_eqRow.f k l0 l1 = some r) :
    Calls Try.prog 27 #[.slice A0 l0.length c0, .slice A1 l1.length c1] w fun e w' => e = .returned (.bool r) ∧ Drawn0 w w' := by
  have HR0 := Aside0.mk hr0
  have HC0 := Aside0.mk hc0
  clear hr0 hc0
  have HR1 := Aside0.mk hr1
  have HC1 := Aside0.mk hc1
  clear hr1 hc1
  have H : (if (l0.length : Int) = (l1.length : Int) then (laws_eqRow.l0 k l0 l1 0) else (some false)) = some r := h
  clear h
  by_cases c3 : (l0.length : Int) = (l1.length : Int)
  · rw [if_pos c3] at H
    have c3b0 : ((l0.length : Int) == (l1.length : Int)) = true := beq_iff_eq.mpr c3
    have c3b1 : ((l0.length : Int) != (l1.length : Int)) = false := bne_eq_false_iff_eq.mpr c3
    have c3b2 : (l0.length == l1.length) = true := by first | simpa using c3 | (simp at c3 ⊢; omega)
    clear c3
    have H' := Aside0.mk H
    clear H
    go_enter Try.func27, Try.ntmps27
    go_wp2
    repeat (go_quiet (fail); try go_wp2)
    go_loopg [5] k (fun kq v5 w' => ∃ (x5_1 : Int), v5 = .int .i64 x5_1 ∧ Aside0 (laws_eqRow.l0 kq l0 l1 x5_1 = some r) ∧ Aside0 (kq ≤ k) ∧ Drawn0 w w')
    case atStart => exact ⟨(0), (by first | rfl | (simp; done) | (simp [*]; done)), H', ⟨Nat.le_refl _⟩, by repeat (first | exact Drawn0.refl _ | apply Drawn0.step)⟩
    case round =>
      clear H'
      try clear c1
      try clear c2
      try clear p2
      try clear c3
      try clear c3b0
      try clear c3b1
      try clear c3b2
      obtain ⟨x5_1, rfl, HA, HK1, ⟨m1, rfl⟩⟩ := hrel
      cases gk with
      | zero => exact absurd HA.out (by simp [laws_eqRow.l0])
      | succ k1 =>
        have H := HA.out
        clear HA
        simp only [laws_eqRow.l0] at H
        by_cases c4 : x5_1 < (l0.length : Int)
        · rw [if_pos c4] at H
          have c4b0 : decide (x5_1 < (l0.length : Int)) = true := decide_eq_true c4
          clear c4
          by_cases c5 : 0 ≤ x5_1
          · rw [if_pos c5] at H
            have c5b0 : decide (0 ≤ x5_1) = true := decide_eq_true c5
            clear c5
            by_cases c6 : x5_1 < (l1.length : Int)
            · rw [if_pos c6] at H
              have c6b0 : decide (x5_1 < (l1.length : Int)) = true := decide_eq_true c6
              clear c6
              by_cases c7 : (rd l0 x5_1) = (rd l1 x5_1)
              · rw [if_pos c7] at H
                have c7b0 : ((rd l0 x5_1) == (rd l1 x5_1)) = true := beq_iff_eq.mpr c7
                have c7b1 : ((rd l0 x5_1) != (rd l1 x5_1)) = false := bne_eq_false_iff_eq.mpr c7
                clear c7
                have H' := Aside0.mk H
                clear H
                have p398 : 0 ≤ (x5_1 : Int) := of_decide_eq_true (by first | (with_reducible assumption) | assumption)
                have q398 : x5_1 < (l0.length : Int) := of_decide_eq_true (by first | (with_reducible assumption) | assumption)
                obtain ⟨ad398, e398, hx398_0⟩ := Kd.at_int HR0.out x5_1 p398 q398
                cases e398
                replace p398 := eq_true p398
                replace q398 := eq_true q398
                have p399 : 0 ≤ (x5_1 : Int) := of_decide_eq_true (by first | (with_reducible assumption) | assumption)
                have q399 : x5_1 < (l1.length : Int) := of_decide_eq_true (by first | (with_reducible assumption) | assumption)
                obtain ⟨ad399, e399, hx399_0⟩ := Kd.at_int HR1.out x5_1 p399 q399
                cases e399
                replace p399 := eq_true p399
                replace q399 := eq_true q399
                go_wp2
                repeat (go_quiet (fail); try go_wp2)
                go_roundg k1
                case measure => have := HK1.out; omega
                case rel => exact ⟨(wrap64 (x5_1 + 1)), (by first | rfl | (simp; done) | (simp [*]; done)), H', ⟨by have := HK1.out; omega⟩, by repeat (first | exact Drawn0.refl _ | apply Drawn0.step)⟩
              · rw [if_neg c7] at H
                have c7b0 : ((rd l0 x5_1) == (rd l1 x5_1)) = false := beq_eq_false_iff_ne.mpr c7
                have c7b1 : ((rd l0 x5_1) != (rd l1 x5_1)) = true := bne_iff_ne.mpr c7
                obtain rfl := Option.some.inj H
                have p398 : 0 ≤ (x5_1 : Int) := of_decide_eq_true (by first | (with_reducible assumption) | assumption)
                have q398 : x5_1 < (l0.length : Int) := of_decide_eq_true (by first | (with_reducible assumption) | assumption)
                obtain ⟨ad398, e398, hx398_0⟩ := Kd.at_int HR0.out x5_1 p398 q398
                cases e398
                replace p398 := eq_true p398
                replace q398 := eq_true q398
                have p399 : 0 ≤ (x5_1 : Int) := of_decide_eq_true (by first | (with_reducible assumption) | assumption)
                have q399 : x5_1 < (l1.length : Int) := of_decide_eq_true (by first | (with_reducible assumption) | assumption)
                obtain ⟨ad399, e399, hx399_0⟩ := Kd.at_int HR1.out x5_1 p399 q399
                cases e399
                replace p399 := eq_true p399
                replace q399 := eq_true q399
                go_wp2
                repeat (go_quiet (fail); try go_wp2)
                go_ret
                exact ⟨by first | rfl | (simp; done) | (simp [*]; done), by repeat (first | exact Drawn0.refl _ | apply Drawn0.step)⟩
            · rw [if_neg c6] at H
              exact absurd H (by simp)
          · rw [if_neg c5] at H
            exact absurd H (by simp)
        · rw [if_neg c4] at H
          have c4b0 : decide (x5_1 < (l0.length : Int)) = false := decide_eq_false c4
          clear c4
          obtain rfl := Option.some.inj H
          go_wp2
          repeat (go_quiet (fail); try go_wp2)
          go_ret
          exact ⟨by first | rfl | (simp; done) | (simp [*]; done), by repeat (first | exact Drawn0.refl _ | apply Drawn0.step)⟩
  · rw [if_neg c3] at H
    have c3b0 : ((l0.length : Int) == (l1.length : Int)) = false := beq_eq_false_iff_ne.mpr c3
    have c3b1 : ((l0.length : Int) != (l1.length : Int)) = true := bne_iff_ne.mpr c3
    have c3b2 : (l0.length == l1.length) = false := by first | simpa using c3 | (simp at c3 ⊢; omega)
    obtain rfl := Option.some.inj H
    go_enter Try.func27, Try.ntmps27
    go_wp2
    repeat (go_quiet (fail); try go_wp2)
    go_ret
    exact ⟨by first | rfl | (simp; done) | (simp [*]; done), by repeat (first | exact Drawn0.refl _ | apply Drawn0.step)⟩
end Go.Proofs.Ytmheflciiodhdaa.P
-- Written by wip/tools/mkprint.py of this repo, over the kit's print, out of the translation; Lean checks it.
namespace Go.Proofs.Ytmheflciiodhdaa.P
open Go.RowKit Go.Proofs.YtmheflciiodhdaaW.PrintWords Go.Proofs.YtmheflciiodhdaaW.PrintLast Go.Proofs.YtmheflciiodhdaaW.PrintMore
attribute [local go_sem] max2_int min2_int max_two min_two max_three min_three max_four min_four   -- for this text's walks alone
set_option linter.unusedVariables false
set_option linter.unusedSimpArgs false
/-! ### laws_eqWalker: function 89 -/
def laws_eqWalker.f (a0_0 : Int) (a0_1 : Int) (a0_2 : Int) (a0_3 : Int) (a0_4 : Int) (a0_5 : Int) (a1_0 : Int) (a1_1 : Int) (a1_2 : Int) (a1_3 : Int) (a1_4 : Int) (a1_5 : Int) : Option (Bool) := if a0_0 = a1_0 then (if a0_1 = a1_1 then (if a0_2 = a1_2 then (if a0_3 = a1_3 then (if a0_4 = a1_4 then (if a0_5 = a1_5 then (some true) else (some false)) else (some false)) else (some false)) else (some false)) else (some false)) else (some false)
set_option maxHeartbeats 8000000 in
set_option maxRecDepth 100000 in
theorem laws_eqWalker.calls (a0_0 : Int) (a0_1 : Int) (a0_2 : Int) (a0_3 : Int) (a0_4 : Int) (a0_5 : Int) (a1_0 : Int) (a1_1 : Int) (a1_2 : Int) (a1_3 : Int) (a1_4 : Int) (a1_5 : Int) (r : Bool) (w : World) (h : laws_eqWalker.f a0_0 a0_1 a0_2 a0_3 a0_4 a0_5 a1_0 a1_1 a1_2 a1_3 a1_4 a1_5 = some r) :
    Calls Try.prog 89 #[.agg #[.int .i16 a0_0, .int .i16 a0_1, .int .i16 a0_2, .int .i16 a0_3, .int .i16 a0_4, .int .i8 a0_5], .agg #[.int .i16 a1_0, .int .i16 a1_1, .int .i16 a1_2, .int .i16 a1_3, .int .i16 a1_4, .int .i8 a1_5]] w fun e w' => e = .returned (.bool r) ∧ Below w.heap.size w w' := by
  have hu38 := Try.underlying38
  have HB := Aside0.mk (Below.refl w.heap.size w)
  have H : (if a0_0 = a1_0 then (if a0_1 = a1_1 then (if a0_2 = a1_2 then (if a0_3 = a1_3 then (if a0_4 = a1_4 then (if a0_5 = a1_5 then (some true) else (some false)) else (some false)) else (some false)) else (some false)) else (some false)) else (some false)) = some r := h
  clear h
  by_cases c3 : a0_0 = a1_0
  · rw [if_pos c3] at H
    have c3b0 : (a0_0 == a1_0) = true := beq_iff_eq.mpr c3
    have c3b1 : (a0_0 != a1_0) = false := bne_eq_false_iff_eq.mpr c3
    clear c3
    by_cases c4 : a0_1 = a1_1
    · rw [if_pos c4] at H
      have c4b0 : (a0_1 == a1_1) = true := beq_iff_eq.mpr c4
      have c4b1 : (a0_1 != a1_1) = false := bne_eq_false_iff_eq.mpr c4
      clear c4
      by_cases c5 : a0_2 = a1_2
      · rw [if_pos c5] at H
        have c5b0 : (a0_2 == a1_2) = true := beq_iff_eq.mpr c5
        have c5b1 : (a0_2 != a1_2) = false := bne_eq_false_iff_eq.mpr c5
        clear c5
        by_cases c6 : a0_3 = a1_3
        · rw [if_pos c6] at H
          have c6b0 : (a0_3 == a1_3) = true := beq_iff_eq.mpr c6
          have c6b1 : (a0_3 != a1_3) = false := bne_eq_false_iff_eq.mpr c6
          clear c6
          by_cases c7 : a0_4 = a1_4
          · rw [if_pos c7] at H
            have c7b0 : (a0_4 == a1_4) = true := beq_iff_eq.mpr c7
            have c7b1 : (a0_4 != a1_4) = false := bne_eq_false_iff_eq.mpr c7
            clear c7
            by_cases c8 : a0_5 = a1_5
            · rw [if_pos c8] at H
              have c8b0 : (a0_5 == a1_5) = true := beq_iff_eq.mpr c8
              have c8b1 : (a0_5 != a1_5) = false := bne_eq_false_iff_eq.mpr c8
              clear c8
              obtain rfl := Option.some.inj H
              go_enter Try.func89, Try.ntmps89
              go_wp2_with (first | ((with_reducible refine gate_dst (N := 2) rfl ?_); refine box_event ?hg (N := 2) ?hd (cs := #[.int .i16 a0_0, .int .i16 a0_1, .int .i16 a0_2, .int .i16 a0_3, .int .i16 a0_4, .int .i8 a0_5]) (t := 38) ?hr ?_; (case hd => rfl); (case hg => rfl); (case hr => first | (go_simp; done) | (go_simp; rfl)); intro gb400 hg w9 hbox hb; have n0_ := Aside0.mk (below_step (by repeat (first | (with_reducible first | exact HB.out | apply below_alloc | apply pw_below_drewN | apply below_drew1) | exact HB.out)) hb); have n1_ := Aside0.mk (hbox); have n2_ := Aside0.mk ((by rw [hg]; exact (below_size (by repeat (first | (with_reducible first | exact HB.out | apply below_alloc | apply pw_below_drewN | apply below_drew1) | exact HB.out))) : w.heap.size ≤ gb400)); have n3_ := Aside0.mk ((by rw [hg]; exact (below_size (by repeat (first | (with_reducible first | exact HB.out | apply below_alloc | apply pw_below_drewN | apply below_drew1) | exact HB.out))) : w.heap.size ≤ gb400)); clear HB; have HB := n0_; have BK400 := n1_; have GW400 := n2_; have GE400 := n3_; clear n0_ n1_ n2_ n3_; clear hb hbox hg) | ((with_reducible refine gate_dst (N := 3) rfl ?_); refine box_event ?hg (N := 3) ?hd (cs := #[.int .i16 a1_0, .int .i16 a1_1, .int .i16 a1_2, .int .i16 a1_3, .int .i16 a1_4, .int .i8 a1_5]) (t := 38) ?hr ?_; (case hd => rfl); (case hg => rfl); (case hr => first | (go_simp; done) | (go_simp; rfl)); intro gb401 hg w10 hbox hb; have n0_ := Aside0.mk (blk_below (g := gb400) (o := .cells #[.int .i16 a0_0, .int .i16 a0_1, .int .i16 a0_2, .int .i16 a0_3, .int .i16 a0_4, .int .i8 a0_5] 38 (0, 0)) (by (with_reducible repeat (first | refine blk_drewN ?_ _ | refine blk_drew ?_ | refine blk_alloc ?_ _)); exact BK400.out) hb); have n1_ := Aside0.mk (below_step (by repeat (first | (with_reducible first | exact HB.out | apply below_alloc | apply pw_below_drewN | apply below_drew1 | refine below_set ?_ GE400.out) | exact HB.out)) hb); have n2_ := Aside0.mk (hbox); have n3_ := Aside0.mk ((by rw [hg]; exact (below_size (by repeat (first | (with_reducible first | exact HB.out | apply below_alloc | apply pw_below_drewN | apply below_drew1 | refine below_set ?_ GE400.out) | exact HB.out))) : w.heap.size ≤ gb401)); have n4_ := Aside0.mk ((by rw [hg]; exact (below_size (by repeat (first | (with_reducible first | exact HB.out | apply below_alloc | apply pw_below_drewN | apply below_drew1 | refine below_set ?_ GE400.out) | exact HB.out))) : w.heap.size ≤ gb401)); have n5_ := Aside0.mk ((by rw [hg]; exact Nat.ne_of_lt (blk_lt (g := gb400) (o := .cells #[.int .i16 a0_0, .int .i16 a0_1, .int .i16 a0_2, .int .i16 a0_3, .int .i16 a0_4, .int .i8 a0_5] 38 (0, 0)) (by (with_reducible repeat (first | refine blk_drewN ?_ _ | refine blk_drew ?_ | refine blk_alloc ?_ _)); exact BK400.out)) : gb400 ≠ gb401)); have n6_ := Aside0.mk ((by rw [hg]; exact Nat.ne_of_gt (blk_lt (g := gb400) (o := .cells #[.int .i16 a0_0, .int .i16 a0_1, .int .i16 a0_2, .int .i16 a0_3, .int .i16 a0_4, .int .i8 a0_5] 38 (0, 0)) (by (with_reducible repeat (first | refine blk_drewN ?_ _ | refine blk_drew ?_ | refine blk_alloc ?_ _)); exact BK400.out)) : gb401 ≠ gb400)); clear BK400; clear HB; have BK400 := n0_; have HB := n1_; have BK401 := n2_; have GW401 := n3_; have GE401 := n4_; have NB400_401 := n5_; have NB401_400 := n6_; clear n0_ n1_ n2_ n3_ n4_ n5_ n6_; clear hb hbox hg; have hnb11 := NB400_401.out; have hnc11 := NB401_400.out; have hcz12_0 : w10.cell? ⟨gb400, 0, none⟩ = some (.int .i16 a0_0) := (blk_cell BK400.out 0).trans rfl; have hcz12_1 : w10.cell? ⟨gb400, 1, none⟩ = some (.int .i16 a0_1) := (blk_cell BK400.out 1).trans rfl; have hcz12_2 : w10.cell? ⟨gb400, 2, none⟩ = some (.int .i16 a0_2) := (blk_cell BK400.out 2).trans rfl; have hcz12_3 : w10.cell? ⟨gb400, 3, none⟩ = some (.int .i16 a0_3) := (blk_cell BK400.out 3).trans rfl; have hcz12_4 : w10.cell? ⟨gb400, 4, none⟩ = some (.int .i16 a0_4) := (blk_cell BK400.out 4).trans rfl; have hcz12_5 : w10.cell? ⟨gb400, 5, none⟩ = some (.int .i8 a0_5) := (blk_cell BK400.out 5).trans rfl; have hfz12_0 := blk_frozen BK400.out 0; have hfz12_1 := blk_frozen BK400.out 1; have hfz12_2 := blk_frozen BK400.out 2; have hfz12_3 := blk_frozen BK400.out 3; have hfz12_4 := blk_frozen BK400.out 4; have hfz12_5 := blk_frozen BK400.out 5; have hcz13_0 : w10.cell? ⟨gb401, 0, none⟩ = some (.int .i16 a1_0) := (blk_cell BK401.out 0).trans rfl; have hcz13_1 : w10.cell? ⟨gb401, 1, none⟩ = some (.int .i16 a1_1) := (blk_cell BK401.out 1).trans rfl; have hcz13_2 : w10.cell? ⟨gb401, 2, none⟩ = some (.int .i16 a1_2) := (blk_cell BK401.out 2).trans rfl; have hcz13_3 : w10.cell? ⟨gb401, 3, none⟩ = some (.int .i16 a1_3) := (blk_cell BK401.out 3).trans rfl; have hcz13_4 : w10.cell? ⟨gb401, 4, none⟩ = some (.int .i16 a1_4) := (blk_cell BK401.out 4).trans rfl; have hcz13_5 : w10.cell? ⟨gb401, 5, none⟩ = some (.int .i8 a1_5) := (blk_cell BK401.out 5).trans rfl; have hfz13_0 := blk_frozen BK401.out 0; have hfz13_1 := blk_frozen BK401.out 1; have hfz13_2 := blk_frozen BK401.out 2; have hfz13_3 := blk_frozen BK401.out 3; have hfz13_4 := blk_frozen BK401.out 4; have hfz13_5 := blk_frozen BK401.out 5))
              go_ret
              exact ⟨by first | rfl | (simp [errW_none, errW_some] <;> rfl) | (simp [*, errW_none, errW_some] <;> rfl), by repeat (first | (with_reducible first | exact HB.out | apply below_alloc | apply pw_below_drewN | apply below_drew1 | refine below_set ?_ GE400.out | refine below_set ?_ GE401.out) | exact HB.out)⟩
            · rw [if_neg c8] at H
              have c8b0 : (a0_5 == a1_5) = false := beq_eq_false_iff_ne.mpr c8
              have c8b1 : (a0_5 != a1_5) = true := bne_iff_ne.mpr c8
              obtain rfl := Option.some.inj H
              go_enter Try.func89, Try.ntmps89
              go_wp2_with (first | ((with_reducible refine gate_dst (N := 2) rfl ?_); refine box_event ?hg (N := 2) ?hd (cs := #[.int .i16 a0_0, .int .i16 a0_1, .int .i16 a0_2, .int .i16 a0_3, .int .i16 a0_4, .int .i8 a0_5]) (t := 38) ?hr ?_; (case hd => rfl); (case hg => rfl); (case hr => first | (go_simp; done) | (go_simp; rfl)); intro gb400 hg w14 hbox hb; have n0_ := Aside0.mk (below_step (by repeat (first | (with_reducible first | exact HB.out | apply below_alloc | apply pw_below_drewN | apply below_drew1) | exact HB.out)) hb); have n1_ := Aside0.mk (hbox); have n2_ := Aside0.mk ((by rw [hg]; exact (below_size (by repeat (first | (with_reducible first | exact HB.out | apply below_alloc | apply pw_below_drewN | apply below_drew1) | exact HB.out))) : w.heap.size ≤ gb400)); have n3_ := Aside0.mk ((by rw [hg]; exact (below_size (by repeat (first | (with_reducible first | exact HB.out | apply below_alloc | apply pw_below_drewN | apply below_drew1) | exact HB.out))) : w.heap.size ≤ gb400)); clear HB; have HB := n0_; have BK400 := n1_; have GW400 := n2_; have GE400 := n3_; clear n0_ n1_ n2_ n3_; clear hb hbox hg) | ((with_reducible refine gate_dst (N := 3) rfl ?_); refine box_event ?hg (N := 3) ?hd (cs := #[.int .i16 a1_0, .int .i16 a1_1, .int .i16 a1_2, .int .i16 a1_3, .int .i16 a1_4, .int .i8 a1_5]) (t := 38) ?hr ?_; (case hd => rfl); (case hg => rfl); (case hr => first | (go_simp; done) | (go_simp; rfl)); intro gb401 hg w15 hbox hb; have n0_ := Aside0.mk (blk_below (g := gb400) (o := .cells #[.int .i16 a0_0, .int .i16 a0_1, .int .i16 a0_2, .int .i16 a0_3, .int .i16 a0_4, .int .i8 a0_5] 38 (0, 0)) (by (with_reducible repeat (first | refine blk_drewN ?_ _ | refine blk_drew ?_ | refine blk_alloc ?_ _)); exact BK400.out) hb); have n1_ := Aside0.mk (below_step (by repeat (first | (with_reducible first | exact HB.out | apply below_alloc | apply pw_below_drewN | apply below_drew1 | refine below_set ?_ GE400.out) | exact HB.out)) hb); have n2_ := Aside0.mk (hbox); have n3_ := Aside0.mk ((by rw [hg]; exact (below_size (by repeat (first | (with_reducible first | exact HB.out | apply below_alloc | apply pw_below_drewN | apply below_drew1 | refine below_set ?_ GE400.out) | exact HB.out))) : w.heap.size ≤ gb401)); have n4_ := Aside0.mk ((by rw [hg]; exact (below_size (by repeat (first | (with_reducible first | exact HB.out | apply below_alloc | apply pw_below_drewN | apply below_drew1 | refine below_set ?_ GE400.out) | exact HB.out))) : w.heap.size ≤ gb401)); have n5_ := Aside0.mk ((by rw [hg]; exact Nat.ne_of_lt (blk_lt (g := gb400) (o := .cells #[.int .i16 a0_0, .int .i16 a0_1, .int .i16 a0_2, .int .i16 a0_3, .int .i16 a0_4, .int .i8 a0_5] 38 (0, 0)) (by (with_reducible repeat (first | refine blk_drewN ?_ _ | refine blk_drew ?_ | refine blk_alloc ?_ _)); exact BK400.out)) : gb400 ≠ gb401)); have n6_ := Aside0.mk ((by rw [hg]; exact Nat.ne_of_gt (blk_lt (g := gb400) (o := .cells #[.int .i16 a0_0, .int .i16 a0_1, .int .i16 a0_2, .int .i16 a0_3, .int .i16 a0_4, .int .i8 a0_5] 38 (0, 0)) (by (with_reducible repeat (first | refine blk_drewN ?_ _ | refine blk_drew ?_ | refine blk_alloc ?_ _)); exact BK400.out)) : gb401 ≠ gb400)); clear BK400; clear HB; have BK400 := n0_; have HB := n1_; have BK401 := n2_; have GW401 := n3_; have GE401 := n4_; have NB400_401 := n5_; have NB401_400 := n6_; clear n0_ n1_ n2_ n3_ n4_ n5_ n6_; clear hb hbox hg; have hnb16 := NB400_401.out; have hnc16 := NB401_400.out; have hcz17_0 : w15.cell? ⟨gb400, 0, none⟩ = some (.int .i16 a0_0) := (blk_cell BK400.out 0).trans rfl; have hcz17_1 : w15.cell? ⟨gb400, 1, none⟩ = some (.int .i16 a0_1) := (blk_cell BK400.out 1).trans rfl; have hcz17_2 : w15.cell? ⟨gb400, 2, none⟩ = some (.int .i16 a0_2) := (blk_cell BK400.out 2).trans rfl; have hcz17_3 : w15.cell? ⟨gb400, 3, none⟩ = some (.int .i16 a0_3) := (blk_cell BK400.out 3).trans rfl; have hcz17_4 : w15.cell? ⟨gb400, 4, none⟩ = some (.int .i16 a0_4) := (blk_cell BK400.out 4).trans rfl; have hcz17_5 : w15.cell? ⟨gb400, 5, none⟩ = some (.int .i8 a0_5) := (blk_cell BK400.out 5).trans rfl; have hfz17_0 := blk_frozen BK400.out 0; have hfz17_1 := blk_frozen BK400.out 1; have hfz17_2 := blk_frozen BK400.out 2; have hfz17_3 := blk_frozen BK400.out 3; have hfz17_4 := blk_frozen BK400.out 4; have hfz17_5 := blk_frozen BK400.out 5; have hcz18_0 : w15.cell? ⟨gb401, 0, none⟩ = some (.int .i16 a1_0) := (blk_cell BK401.out 0).trans rfl; have hcz18_1 : w15.cell? ⟨gb401, 1, none⟩ = some (.int .i16 a1_1) := (blk_cell BK401.out 1).trans rfl; have hcz18_2 : w15.cell? ⟨gb401, 2, none⟩ = some (.int .i16 a1_2) := (blk_cell BK401.out 2).trans rfl; have hcz18_3 : w15.cell? ⟨gb401, 3, none⟩ = some (.int .i16 a1_3) := (blk_cell BK401.out 3).trans rfl; have hcz18_4 : w15.cell? ⟨gb401, 4, none⟩ = some (.int .i16 a1_4) := (blk_cell BK401.out 4).trans rfl; have hcz18_5 : w15.cell? ⟨gb401, 5, none⟩ = some (.int .i8 a1_5) := (blk_cell BK401.out 5).trans rfl; have hfz18_0 := blk_frozen BK401.out 0; have hfz18_1 := blk_frozen BK401.out 1; have hfz18_2 := blk_frozen BK401.out 2; have hfz18_3 := blk_frozen BK401.out 3; have hfz18_4 := blk_frozen BK401.out 4; have hfz18_5 := blk_frozen BK401.out 5))
              go_ret
              exact ⟨by first | rfl | (simp [errW_none, errW_some] <;> rfl) | (simp [*, errW_none, errW_some] <;> rfl), by repeat (first | (with_reducible first | exact HB.out | apply below_alloc | apply pw_below_drewN | apply below_drew1 | refine below_set ?_ GE400.out | refine below_set ?_ GE401.out) | exact HB.out)⟩
          · rw [if_neg c7] at H
            have c7b0 : (a0_4 == a1_4) = false := beq_eq_false_iff_ne.mpr c7
            have c7b1 : (a0_4 != a1_4) = true := bne_iff_ne.mpr c7
            obtain rfl := Option.some.inj H
            go_enter Try.func89, Try.ntmps89
            go_wp2_with (first | ((with_reducible refine gate_dst (N := 2) rfl ?_); refine box_event ?hg (N := 2) ?hd (cs := #[.int .i16 a0_0, .int .i16 a0_1, .int .i16 a0_2, .int .i16 a0_3, .int .i16 a0_4, .int .i8 a0_5]) (t := 38) ?hr ?_; (case hd => rfl); (case hg => rfl); (case hr => first | (go_simp; done) | (go_simp; rfl)); intro gb400 hg w19 hbox hb; have n0_ := Aside0.mk (below_step (by repeat (first | (with_reducible first | exact HB.out | apply below_alloc | apply pw_below_drewN | apply below_drew1) | exact HB.out)) hb); have n1_ := Aside0.mk (hbox); have n2_ := Aside0.mk ((by rw [hg]; exact (below_size (by repeat (first | (with_reducible first | exact HB.out | apply below_alloc | apply pw_below_drewN | apply below_drew1) | exact HB.out))) : w.heap.size ≤ gb400)); have n3_ := Aside0.mk ((by rw [hg]; exact (below_size (by repeat (first | (with_reducible first | exact HB.out | apply below_alloc | apply pw_below_drewN | apply below_drew1) | exact HB.out))) : w.heap.size ≤ gb400)); clear HB; have HB := n0_; have BK400 := n1_; have GW400 := n2_; have GE400 := n3_; clear n0_ n1_ n2_ n3_; clear hb hbox hg) | ((with_reducible refine gate_dst (N := 3) rfl ?_); refine box_event ?hg (N := 3) ?hd (cs := #[.int .i16 a1_0, .int .i16 a1_1, .int .i16 a1_2, .int .i16 a1_3, .int .i16 a1_4, .int .i8 a1_5]) (t := 38) ?hr ?_; (case hd => rfl); (case hg => rfl); (case hr => first | (go_simp; done) | (go_simp; rfl)); intro gb401 hg w20 hbox hb; have n0_ := Aside0.mk (blk_below (g := gb400) (o := .cells #[.int .i16 a0_0, .int .i16 a0_1, .int .i16 a0_2, .int .i16 a0_3, .int .i16 a0_4, .int .i8 a0_5] 38 (0, 0)) (by (with_reducible repeat (first | refine blk_drewN ?_ _ | refine blk_drew ?_ | refine blk_alloc ?_ _)); exact BK400.out) hb); have n1_ := Aside0.mk (below_step (by repeat (first | (with_reducible first | exact HB.out | apply below_alloc | apply pw_below_drewN | apply below_drew1 | refine below_set ?_ GE400.out) | exact HB.out)) hb); have n2_ := Aside0.mk (hbox); have n3_ := Aside0.mk ((by rw [hg]; exact (below_size (by repeat (first | (with_reducible first | exact HB.out | apply below_alloc | apply pw_below_drewN | apply below_drew1 | refine below_set ?_ GE400.out) | exact HB.out))) : w.heap.size ≤ gb401)); have n4_ := Aside0.mk ((by rw [hg]; exact (below_size (by repeat (first | (with_reducible first | exact HB.out | apply below_alloc | apply pw_below_drewN | apply below_drew1 | refine below_set ?_ GE400.out) | exact HB.out))) : w.heap.size ≤ gb401)); have n5_ := Aside0.mk ((by rw [hg]; exact Nat.ne_of_lt (blk_lt (g := gb400) (o := .cells #[.int .i16 a0_0, .int .i16 a0_1, .int .i16 a0_2, .int .i16 a0_3, .int .i16 a0_4, .int .i8 a0_5] 38 (0, 0)) (by (with_reducible repeat (first | refine blk_drewN ?_ _ | refine blk_drew ?_ | refine blk_alloc ?_ _)); exact BK400.out)) : gb400 ≠ gb401)); have n6_ := Aside0.mk ((by rw [hg]; exact Nat.ne_of_gt (blk_lt (g := gb400) (o := .cells #[.int .i16 a0_0, .int .i16 a0_1, .int .i16 a0_2, .int .i16 a0_3, .int .i16 a0_4, .int .i8 a0_5] 38 (0, 0)) (by (with_reducible repeat (first | refine blk_drewN ?_ _ | refine blk_drew ?_ | refine blk_alloc ?_ _)); exact BK400.out)) : gb401 ≠ gb400)); clear BK400; clear HB; have BK400 := n0_; have HB := n1_; have BK401 := n2_; have GW401 := n3_; have GE401 := n4_; have NB400_401 := n5_; have NB401_400 := n6_; clear n0_ n1_ n2_ n3_ n4_ n5_ n6_; clear hb hbox hg; have hnb21 := NB400_401.out; have hnc21 := NB401_400.out; have hcz22_0 : w20.cell? ⟨gb400, 0, none⟩ = some (.int .i16 a0_0) := (blk_cell BK400.out 0).trans rfl; have hcz22_1 : w20.cell? ⟨gb400, 1, none⟩ = some (.int .i16 a0_1) := (blk_cell BK400.out 1).trans rfl; have hcz22_2 : w20.cell? ⟨gb400, 2, none⟩ = some (.int .i16 a0_2) := (blk_cell BK400.out 2).trans rfl; have hcz22_3 : w20.cell? ⟨gb400, 3, none⟩ = some (.int .i16 a0_3) := (blk_cell BK400.out 3).trans rfl; have hcz22_4 : w20.cell? ⟨gb400, 4, none⟩ = some (.int .i16 a0_4) := (blk_cell BK400.out 4).trans rfl; have hcz22_5 : w20.cell? ⟨gb400, 5, none⟩ = some (.int .i8 a0_5) := (blk_cell BK400.out 5).trans rfl; have hfz22_0 := blk_frozen BK400.out 0; have hfz22_1 := blk_frozen BK400.out 1; have hfz22_2 := blk_frozen BK400.out 2; have hfz22_3 := blk_frozen BK400.out 3; have hfz22_4 := blk_frozen BK400.out 4; have hfz22_5 := blk_frozen BK400.out 5; have hcz23_0 : w20.cell? ⟨gb401, 0, none⟩ = some (.int .i16 a1_0) := (blk_cell BK401.out 0).trans rfl; have hcz23_1 : w20.cell? ⟨gb401, 1, none⟩ = some (.int .i16 a1_1) := (blk_cell BK401.out 1).trans rfl; have hcz23_2 : w20.cell? ⟨gb401, 2, none⟩ = some (.int .i16 a1_2) := (blk_cell BK401.out 2).trans rfl; have hcz23_3 : w20.cell? ⟨gb401, 3, none⟩ = some (.int .i16 a1_3) := (blk_cell BK401.out 3).trans rfl; have hcz23_4 : w20.cell? ⟨gb401, 4, none⟩ = some (.int .i16 a1_4) := (blk_cell BK401.out 4).trans rfl; have hcz23_5 : w20.cell? ⟨gb401, 5, none⟩ = some (.int .i8 a1_5) := (blk_cell BK401.out 5).trans rfl; have hfz23_0 := blk_frozen BK401.out 0; have hfz23_1 := blk_frozen BK401.out 1; have hfz23_2 := blk_frozen BK401.out 2; have hfz23_3 := blk_frozen BK401.out 3; have hfz23_4 := blk_frozen BK401.out 4; have hfz23_5 := blk_frozen BK401.out 5))
            go_ret
            exact ⟨by first | rfl | (simp [errW_none, errW_some] <;> rfl) | (simp [*, errW_none, errW_some] <;> rfl), by repeat (first | (with_reducible first | exact HB.out | apply below_alloc | apply pw_below_drewN | apply below_drew1 | refine below_set ?_ GE400.out | refine below_set ?_ GE401.out) | exact HB.out)⟩
        · rw [if_neg c6] at H
          have c6b0 : (a0_3 == a1_3) = false := beq_eq_false_iff_ne.mpr c6
          have c6b1 : (a0_3 != a1_3) = true := bne_iff_ne.mpr c6
          obtain rfl := Option.some.inj H
          go_enter Try.func89, Try.ntmps89
          go_wp2_with (first | ((with_reducible refine gate_dst (N := 2) rfl ?_); refine box_event ?hg (N := 2) ?hd (cs := #[.int .i16 a0_0, .int .i16 a0_1, .int .i16 a0_2, .int .i16 a0_3, .int .i16 a0_4, .int .i8 a0_5]) (t := 38) ?hr ?_; (case hd => rfl); (case hg => rfl); (case hr => first | (go_simp; done) | (go_simp; rfl)); intro gb400 hg w24 hbox hb; have n0_ := Aside0.mk (below_step (by repeat (first | (with_reducible first | exact HB.out | apply below_alloc | apply pw_below_drewN | apply below_drew1) | exact HB.out)) hb); have n1_ := Aside0.mk (hbox); have n2_ := Aside0.mk ((by rw [hg]; exact (below_size (by repeat (first | (with_reducible first | exact HB.out | apply below_alloc | apply pw_below_drewN | apply below_drew1) | exact HB.out))) : w.heap.size ≤ gb400)); have n3_ := Aside0.mk ((by rw [hg]; exact (below_size (by repeat (first | (with_reducible first | exact HB.out | apply below_alloc | apply pw_below_drewN | apply below_drew1) | exact HB.out))) : w.heap.size ≤ gb400)); clear HB; have HB := n0_; have BK400 := n1_; have GW400 := n2_; have GE400 := n3_; clear n0_ n1_ n2_ n3_; clear hb hbox hg) | ((with_reducible refine gate_dst (N := 3) rfl ?_); refine box_event ?hg (N := 3) ?hd (cs := #[.int .i16 a1_0, .int .i16 a1_1, .int .i16 a1_2, .int .i16 a1_3, .int .i16 a1_4, .int .i8 a1_5]) (t := 38) ?hr ?_; (case hd => rfl); (case hg => rfl); (case hr => first | (go_simp; done) | (go_simp; rfl)); intro gb401 hg w25 hbox hb; have n0_ := Aside0.mk (blk_below (g := gb400) (o := .cells #[.int .i16 a0_0, .int .i16 a0_1, .int .i16 a0_2, .int .i16 a0_3, .int .i16 a0_4, .int .i8 a0_5] 38 (0, 0)) (by (with_reducible repeat (first | refine blk_drewN ?_ _ | refine blk_drew ?_ | refine blk_alloc ?_ _)); exact BK400.out) hb); have n1_ := Aside0.mk (below_step (by repeat (first | (with_reducible first | exact HB.out | apply below_alloc | apply pw_below_drewN | apply below_drew1 | refine below_set ?_ GE400.out) | exact HB.out)) hb); have n2_ := Aside0.mk (hbox); have n3_ := Aside0.mk ((by rw [hg]; exact (below_size (by repeat (first | (with_reducible first | exact HB.out | apply below_alloc | apply pw_below_drewN | apply below_drew1 | refine below_set ?_ GE400.out) | exact HB.out))) : w.heap.size ≤ gb401)); have n4_ := Aside0.mk ((by rw [hg]; exact (below_size (by repeat (first | (with_reducible first | exact HB.out | apply below_alloc | apply pw_below_drewN | apply below_drew1 | refine below_set ?_ GE400.out) | exact HB.out))) : w.heap.size ≤ gb401)); have n5_ := Aside0.mk ((by rw [hg]; exact Nat.ne_of_lt (blk_lt (g := gb400) (o := .cells #[.int .i16 a0_0, .int .i16 a0_1, .int .i16 a0_2, .int .i16 a0_3, .int .i16 a0_4, .int .i8 a0_5] 38 (0, 0)) (by (with_reducible repeat (first | refine blk_drewN ?_ _ | refine blk_drew ?_ | refine blk_alloc ?_ _)); exact BK400.out)) : gb400 ≠ gb401)); have n6_ := Aside0.mk ((by rw [hg]; exact Nat.ne_of_gt (blk_lt (g := gb400) (o := .cells #[.int .i16 a0_0, .int .i16 a0_1, .int .i16 a0_2, .int .i16 a0_3, .int .i16 a0_4, .int .i8 a0_5] 38 (0, 0)) (by (with_reducible repeat (first | refine blk_drewN ?_ _ | refine blk_drew ?_ | refine blk_alloc ?_ _)); exact BK400.out)) : gb401 ≠ gb400)); clear BK400; clear HB; have BK400 := n0_; have HB := n1_; have BK401 := n2_; have GW401 := n3_; have GE401 := n4_; have NB400_401 := n5_; have NB401_400 := n6_; clear n0_ n1_ n2_ n3_ n4_ n5_ n6_; clear hb hbox hg; have hnb26 := NB400_401.out; have hnc26 := NB401_400.out; have hcz27_0 : w25.cell? ⟨gb400, 0, none⟩ = some (.int .i16 a0_0) := (blk_cell BK400.out 0).trans rfl; have hcz27_1 : w25.cell? ⟨gb400, 1, none⟩ = some (.int .i16 a0_1) := (blk_cell BK400.out 1).trans rfl; have hcz27_2 : w25.cell? ⟨gb400, 2, none⟩ = some (.int .i16 a0_2) := (blk_cell BK400.out 2).trans rfl; have hcz27_3 : w25.cell? ⟨gb400, 3, none⟩ = some (.int .i16 a0_3) := (blk_cell BK400.out 3).trans rfl; have hcz27_4 : w25.cell? ⟨gb400, 4, none⟩ = some (.int .i16 a0_4) := (blk_cell BK400.out 4).trans rfl; have hcz27_5 : w25.cell? ⟨gb400, 5, none⟩ = some (.int .i8 a0_5) := (blk_cell BK400.out 5).trans rfl; have hfz27_0 := blk_frozen BK400.out 0; have hfz27_1 := blk_frozen BK400.out 1; have hfz27_2 := blk_frozen BK400.out 2; have hfz27_3 := blk_frozen BK400.out 3; have hfz27_4 := blk_frozen BK400.out 4; have hfz27_5 := blk_frozen BK400.out 5; have hcz28_0 : w25.cell? ⟨gb401, 0, none⟩ = some (.int .i16 a1_0) := (blk_cell BK401.out 0).trans rfl; have hcz28_1 : w25.cell? ⟨gb401, 1, none⟩ = some (.int .i16 a1_1) := (blk_cell BK401.out 1).trans rfl; have hcz28_2 : w25.cell? ⟨gb401, 2, none⟩ = some (.int .i16 a1_2) := (blk_cell BK401.out 2).trans rfl; have hcz28_3 : w25.cell? ⟨gb401, 3, none⟩ = some (.int .i16 a1_3) := (blk_cell BK401.out 3).trans rfl; have hcz28_4 : w25.cell? ⟨gb401, 4, none⟩ = some (.int .i16 a1_4) := (blk_cell BK401.out 4).trans rfl; have hcz28_5 : w25.cell? ⟨gb401, 5, none⟩ = some (.int .i8 a1_5) := (blk_cell BK401.out 5).trans rfl; have hfz28_0 := blk_frozen BK401.out 0; have hfz28_1 := blk_frozen BK401.out 1; have hfz28_2 := blk_frozen BK401.out 2; have hfz28_3 := blk_frozen BK401.out 3; have hfz28_4 := blk_frozen BK401.out 4; have hfz28_5 := blk_frozen BK401.out 5))
          go_ret
          exact ⟨by first | rfl | (simp [errW_none, errW_some] <;> rfl) | (simp [*, errW_none, errW_some] <;> rfl), by repeat (first | (with_reducible first | exact HB.out | apply below_alloc | apply pw_below_drewN | apply below_drew1 | refine below_set ?_ GE400.out | refine below_set ?_ GE401.out) | exact HB.out)⟩
      · rw [if_neg c5] at H
        have c5b0 : (a0_2 == a1_2) = false := beq_eq_false_iff_ne.mpr c5
        have c5b1 : (a0_2 != a1_2) = true := bne_iff_ne.mpr c5
        obtain rfl := Option.some.inj H
        go_enter Try.func89, Try.ntmps89
        go_wp2_with (first | ((with_reducible refine gate_dst (N := 2) rfl ?_); refine box_event ?hg (N := 2) ?hd (cs := #[.int .i16 a0_0, .int .i16 a0_1, .int .i16 a0_2, .int .i16 a0_3, .int .i16 a0_4, .int .i8 a0_5]) (t := 38) ?hr ?_; (case hd => rfl); (case hg => rfl); (case hr => first | (go_simp; done) | (go_simp; rfl)); intro gb400 hg w29 hbox hb; have n0_ := Aside0.mk (below_step (by repeat (first | (with_reducible first | exact HB.out | apply below_alloc | apply pw_below_drewN | apply below_drew1) | exact HB.out)) hb); have n1_ := Aside0.mk (hbox); have n2_ := Aside0.mk ((by rw [hg]; exact (below_size (by repeat (first | (with_reducible first | exact HB.out | apply below_alloc | apply pw_below_drewN | apply below_drew1) | exact HB.out))) : w.heap.size ≤ gb400)); have n3_ := Aside0.mk ((by rw [hg]; exact (below_size (by repeat (first | (with_reducible first | exact HB.out | apply below_alloc | apply pw_below_drewN | apply below_drew1) | exact HB.out))) : w.heap.size ≤ gb400)); clear HB; have HB := n0_; have BK400 := n1_; have GW400 := n2_; have GE400 := n3_; clear n0_ n1_ n2_ n3_; clear hb hbox hg) | ((with_reducible refine gate_dst (N := 3) rfl ?_); refine box_event ?hg (N := 3) ?hd (cs := #[.int .i16 a1_0, .int .i16 a1_1, .int .i16 a1_2, .int .i16 a1_3, .int .i16 a1_4, .int .i8 a1_5]) (t := 38) ?hr ?_; (case hd => rfl); (case hg => rfl); (case hr => first | (go_simp; done) | (go_simp; rfl)); intro gb401 hg w30 hbox hb; have n0_ := Aside0.mk (blk_below (g := gb400) (o := .cells #[.int .i16 a0_0, .int .i16 a0_1, .int .i16 a0_2, .int .i16 a0_3, .int .i16 a0_4, .int .i8 a0_5] 38 (0, 0)) (by (with_reducible repeat (first | refine blk_drewN ?_ _ | refine blk_drew ?_ | refine blk_alloc ?_ _)); exact BK400.out) hb); have n1_ := Aside0.mk (below_step (by repeat (first | (with_reducible first | exact HB.out | apply below_alloc | apply pw_below_drewN | apply below_drew1 | refine below_set ?_ GE400.out) | exact HB.out)) hb); have n2_ := Aside0.mk (hbox); have n3_ := Aside0.mk ((by rw [hg]; exact (below_size (by repeat (first | (with_reducible first | exact HB.out | apply below_alloc | apply pw_below_drewN | apply below_drew1 | refine below_set ?_ GE400.out) | exact HB.out))) : w.heap.size ≤ gb401)); have n4_ := Aside0.mk ((by rw [hg]; exact (below_size (by repeat (first | (with_reducible first | exact HB.out | apply below_alloc | apply pw_below_drewN | apply below_drew1 | refine below_set ?_ GE400.out) | exact HB.out))) : w.heap.size ≤ gb401)); have n5_ := Aside0.mk ((by rw [hg]; exact Nat.ne_of_lt (blk_lt (g := gb400) (o := .cells #[.int .i16 a0_0, .int .i16 a0_1, .int .i16 a0_2, .int .i16 a0_3, .int .i16 a0_4, .int .i8 a0_5] 38 (0, 0)) (by (with_reducible repeat (first | refine blk_drewN ?_ _ | refine blk_drew ?_ | refine blk_alloc ?_ _)); exact BK400.out)) : gb400 ≠ gb401)); have n6_ := Aside0.mk ((by rw [hg]; exact Nat.ne_of_gt (blk_lt (g := gb400) (o := .cells #[.int .i16 a0_0, .int .i16 a0_1, .int .i16 a0_2, .int .i16 a0_3, .int .i16 a0_4, .int .i8 a0_5] 38 (0, 0)) (by (with_reducible repeat (first | refine blk_drewN ?_ _ | refine blk_drew ?_ | refine blk_alloc ?_ _)); exact BK400.out)) : gb401 ≠ gb400)); clear BK400; clear HB; have BK400 := n0_; have HB := n1_; have BK401 := n2_; have GW401 := n3_; have GE401 := n4_; have NB400_401 := n5_; have NB401_400 := n6_; clear n0_ n1_ n2_ n3_ n4_ n5_ n6_; clear hb hbox hg; have hnb31 := NB400_401.out; have hnc31 := NB401_400.out; have hcz32_0 : w30.cell? ⟨gb400, 0, none⟩ = some (.int .i16 a0_0) := (blk_cell BK400.out 0).trans rfl; have hcz32_1 : w30.cell? ⟨gb400, 1, none⟩ = some (.int .i16 a0_1) := (blk_cell BK400.out 1).trans rfl; have hcz32_2 : w30.cell? ⟨gb400, 2, none⟩ = some (.int .i16 a0_2) := (blk_cell BK400.out 2).trans rfl; have hcz32_3 : w30.cell? ⟨gb400, 3, none⟩ = some (.int .i16 a0_3) := (blk_cell BK400.out 3).trans rfl; have hcz32_4 : w30.cell? ⟨gb400, 4, none⟩ = some (.int .i16 a0_4) := (blk_cell BK400.out 4).trans rfl; have hcz32_5 : w30.cell? ⟨gb400, 5, none⟩ = some (.int .i8 a0_5) := (blk_cell BK400.out 5).trans rfl; have hfz32_0 := blk_frozen BK400.out 0; have hfz32_1 := blk_frozen BK400.out 1; have hfz32_2 := blk_frozen BK400.out 2; have hfz32_3 := blk_frozen BK400.out 3; have hfz32_4 := blk_frozen BK400.out 4; have hfz32_5 := blk_frozen BK400.out 5; have hcz33_0 : w30.cell? ⟨gb401, 0, none⟩ = some (.int .i16 a1_0) := (blk_cell BK401.out 0).trans rfl; have hcz33_1 : w30.cell? ⟨gb401, 1, none⟩ = some (.int .i16 a1_1) := (blk_cell BK401.out 1).trans rfl; have hcz33_2 : w30.cell? ⟨gb401, 2, none⟩ = some (.int .i16 a1_2) := (blk_cell BK401.out 2).trans rfl; have hcz33_3 : w30.cell? ⟨gb401, 3, none⟩ = some (.int .i16 a1_3) := (blk_cell BK401.out 3).trans rfl; have hcz33_4 : w30.cell? ⟨gb401, 4, none⟩ = some (.int .i16 a1_4) := (blk_cell BK401.out 4).trans rfl; have hcz33_5 : w30.cell? ⟨gb401, 5, none⟩ = some (.int .i8 a1_5) := (blk_cell BK401.out 5).trans rfl; have hfz33_0 := blk_frozen BK401.out 0; have hfz33_1 := blk_frozen BK401.out 1; have hfz33_2 := blk_frozen BK401.out 2; have hfz33_3 := blk_frozen BK401.out 3; have hfz33_4 := blk_frozen BK401.out 4; have hfz33_5 := blk_frozen BK401.out 5))
        go_ret
        exact ⟨by first | rfl | (simp [errW_none, errW_some] <;> rfl) | (simp [*, errW_none, errW_some] <;> rfl), by repeat (first | (with_reducible first | exact HB.out | apply below_alloc | apply pw_below_drewN | apply below_drew1 | refine below_set ?_ GE400.out | refine below_set ?_ GE401.out) | exact HB.out)⟩
    · rw [if_neg c4] at H
      have c4b0 : (a0_1 == a1_1) = false := beq_eq_false_iff_ne.mpr c4
      have c4b1 : (a0_1 != a1_1) = true := bne_iff_ne.mpr c4
      obtain rfl := Option.some.inj H
      go_enter Try.func89, Try.ntmps89
      go_wp2_with (first | ((with_reducible refine gate_dst (N := 2) rfl ?_); refine box_event ?hg (N := 2) ?hd (cs := #[.int .i16 a0_0, .int .i16 a0_1, .int .i16 a0_2, .int .i16 a0_3, .int .i16 a0_4, .int .i8 a0_5]) (t := 38) ?hr ?_; (case hd => rfl); (case hg => rfl); (case hr => first | (go_simp; done) | (go_simp; rfl)); intro gb400 hg w34 hbox hb; have n0_ := Aside0.mk (below_step (by repeat (first | (with_reducible first | exact HB.out | apply below_alloc | apply pw_below_drewN | apply below_drew1) | exact HB.out)) hb); have n1_ := Aside0.mk (hbox); have n2_ := Aside0.mk ((by rw [hg]; exact (below_size (by repeat (first | (with_reducible first | exact HB.out | apply below_alloc | apply pw_below_drewN | apply below_drew1) | exact HB.out))) : w.heap.size ≤ gb400)); have n3_ := Aside0.mk ((by rw [hg]; exact (below_size (by repeat (first | (with_reducible first | exact HB.out | apply below_alloc | apply pw_below_drewN | apply below_drew1) | exact HB.out))) : w.heap.size ≤ gb400)); clear HB; have HB := n0_; have BK400 := n1_; have GW400 := n2_; have GE400 := n3_; clear n0_ n1_ n2_ n3_; clear hb hbox hg) | ((with_reducible refine gate_dst (N := 3) rfl ?_); refine box_event ?hg (N := 3) ?hd (cs := #[.int .i16 a1_0, .int .i16 a1_1, .int .i16 a1_2, .int .i16 a1_3, .int .i16 a1_4, .int .i8 a1_5]) (t := 38) ?hr ?_; (case hd => rfl); (case hg => rfl); (case hr => first | (go_simp; done) | (go_simp; rfl)); intro gb401 hg w35 hbox hb; have n0_ := Aside0.mk (blk_below (g := gb400) (o := .cells #[.int .i16 a0_0, .int .i16 a0_1, .int .i16 a0_2, .int .i16 a0_3, .int .i16 a0_4, .int .i8 a0_5] 38 (0, 0)) (by (with_reducible repeat (first | refine blk_drewN ?_ _ | refine blk_drew ?_ | refine blk_alloc ?_ _)); exact BK400.out) hb); have n1_ := Aside0.mk (below_step (by repeat (first | (with_reducible first | exact HB.out | apply below_alloc | apply pw_below_drewN | apply below_drew1 | refine below_set ?_ GE400.out) | exact HB.out)) hb); have n2_ := Aside0.mk (hbox); have n3_ := Aside0.mk ((by rw [hg]; exact (below_size (by repeat (first | (with_reducible first | exact HB.out | apply below_alloc | apply pw_below_drewN | apply below_drew1 | refine below_set ?_ GE400.out) | exact HB.out))) : w.heap.size ≤ gb401)); have n4_ := Aside0.mk ((by rw [hg]; exact (below_size (by repeat (first | (with_reducible first | exact HB.out | apply below_alloc | apply pw_below_drewN | apply below_drew1 | refine below_set ?_ GE400.out) | exact HB.out))) : w.heap.size ≤ gb401)); have n5_ := Aside0.mk ((by rw [hg]; exact Nat.ne_of_lt (blk_lt (g := gb400) (o := .cells #[.int .i16 a0_0, .int .i16 a0_1, .int .i16 a0_2, .int .i16 a0_3, .int .i16 a0_4, .int .i8 a0_5] 38 (0, 0)) (by (with_reducible repeat (first | refine blk_drewN ?_ _ | refine blk_drew ?_ | refine blk_alloc ?_ _)); exact BK400.out)) : gb400 ≠ gb401)); have n6_ := Aside0.mk ((by rw [hg]; exact Nat.ne_of_gt (blk_lt (g := gb400) (o := .cells #[.int .i16 a0_0, .int .i16 a0_1, .int .i16 a0_2, .int .i16 a0_3, .int .i16 a0_4, .int .i8 a0_5] 38 (0, 0)) (by (with_reducible repeat (first | refine blk_drewN ?_ _ | refine blk_drew ?_ | refine blk_alloc ?_ _)); exact BK400.out)) : gb401 ≠ gb400)); clear BK400; clear HB; have BK400 := n0_; have HB := n1_; have BK401 := n2_; have GW401 := n3_; have GE401 := n4_; have NB400_401 := n5_; have NB401_400 := n6_; clear n0_ n1_ n2_ n3_ n4_ n5_ n6_; clear hb hbox hg; have hnb36 := NB400_401.out; have hnc36 := NB401_400.out; have hcz37_0 : w35.cell? ⟨gb400, 0, none⟩ = some (.int .i16 a0_0) := (blk_cell BK400.out 0).trans rfl; have hcz37_1 : w35.cell? ⟨gb400, 1, none⟩ = some (.int .i16 a0_1) := (blk_cell BK400.out 1).trans rfl; have hcz37_2 : w35.cell? ⟨gb400, 2, none⟩ = some (.int .i16 a0_2) := (blk_cell BK400.out 2).trans rfl; have hcz37_3 : w35.cell? ⟨gb400, 3, none⟩ = some (.int .i16 a0_3) := (blk_cell BK400.out 3).trans rfl; have hcz37_4 : w35.cell? ⟨gb400, 4, none⟩ = some (.int .i16 a0_4) := (blk_cell BK400.out 4).trans rfl; have hcz37_5 : w35.cell? ⟨gb400, 5, none⟩ = some (.int .i8 a0_5) := (blk_cell BK400.out 5).trans rfl; have hfz37_0 := blk_frozen BK400.out 0; have hfz37_1 := blk_frozen BK400.out 1; have hfz37_2 := blk_frozen BK400.out 2; have hfz37_3 := blk_frozen BK400.out 3; have hfz37_4 := blk_frozen BK400.out 4; have hfz37_5 := blk_frozen BK400.out 5; have hcz38_0 : w35.cell? ⟨gb401, 0, none⟩ = some (.int .i16 a1_0) := (blk_cell BK401.out 0).trans rfl; have hcz38_1 : w35.cell? ⟨gb401, 1, none⟩ = some (.int .i16 a1_1) := (blk_cell BK401.out 1).trans rfl; have hcz38_2 : w35.cell? ⟨gb401, 2, none⟩ = some (.int .i16 a1_2) := (blk_cell BK401.out 2).trans rfl; have hcz38_3 : w35.cell? ⟨gb401, 3, none⟩ = some (.int .i16 a1_3) := (blk_cell BK401.out 3).trans rfl; have hcz38_4 : w35.cell? ⟨gb401, 4, none⟩ = some (.int .i16 a1_4) := (blk_cell BK401.out 4).trans rfl; have hcz38_5 : w35.cell? ⟨gb401, 5, none⟩ = some (.int .i8 a1_5) := (blk_cell BK401.out 5).trans rfl; have hfz38_0 := blk_frozen BK401.out 0; have hfz38_1 := blk_frozen BK401.out 1; have hfz38_2 := blk_frozen BK401.out 2; have hfz38_3 := blk_frozen BK401.out 3; have hfz38_4 := blk_frozen BK401.out 4; have hfz38_5 := blk_frozen BK401.out 5))
      go_ret
      exact ⟨by first | rfl | (simp [errW_none, errW_some] <;> rfl) | (simp [*, errW_none, errW_some] <;> rfl), by repeat (first | (with_reducible first | exact HB.out | apply below_alloc | apply pw_below_drewN | apply below_drew1 | refine below_set ?_ GE400.out | refine below_set ?_ GE401.out) | exact HB.out)⟩
  · rw [if_neg c3] at H
    have c3b0 : (a0_0 == a1_0) = false := beq_eq_false_iff_ne.mpr c3
    have c3b1 : (a0_0 != a1_0) = true := bne_iff_ne.mpr c3
    obtain rfl := Option.some.inj H
    go_enter Try.func89, Try.ntmps89
    go_wp2_with (first | ((with_reducible refine gate_dst (N := 2) rfl ?_); refine box_event ?hg (N := 2) ?hd (cs := #[.int .i16 a0_0, .int .i16 a0_1, .int .i16 a0_2, .int .i16 a0_3, .int .i16 a0_4, .int .i8 a0_5]) (t := 38) ?hr ?_; (case hd => rfl); (case hg => rfl); (case hr => first | (go_simp; done) | (go_simp; rfl)); intro gb400 hg w39 hbox hb; have n0_ := Aside0.mk (below_step (by repeat (first | (with_reducible first | exact HB.out | apply below_alloc | apply pw_below_drewN | apply below_drew1) | exact HB.out)) hb); have n1_ := Aside0.mk (hbox); have n2_ := Aside0.mk ((by rw [hg]; exact (below_size (by repeat (first | (with_reducible first | exact HB.out | apply below_alloc | apply pw_below_drewN | apply below_drew1) | exact HB.out))) : w.heap.size ≤ gb400)); have n3_ := Aside0.mk ((by rw [hg]; exact (below_size (by repeat (first | (with_reducible first | exact HB.out | apply below_alloc | apply pw_below_drewN | apply below_drew1) | exact HB.out))) : w.heap.size ≤ gb400)); clear HB; have HB := n0_; have BK400 := n1_; have GW400 := n2_; have GE400 := n3_; clear n0_ n1_ n2_ n3_; clear hb hbox hg) | ((with_reducible refine gate_dst (N := 3) rfl ?_); refine box_event ?hg (N := 3) ?hd (cs := #[.int .i16 a1_0, .int .i16 a1_1, .int .i16 a1_2, .int .i16 a1_3, .int .i16 a1_4, .int .i8 a1_5]) (t := 38) ?hr ?_; (case hd => rfl); (case hg => rfl); (case hr => first | (go_simp; done) | (go_simp; rfl)); intro gb401 hg w40 hbox hb; have n0_ := Aside0.mk (blk_below (g := gb400) (o := .cells #[.int .i16 a0_0, .int .i16 a0_1, .int .i16 a0_2, .int .i16 a0_3, .int .i16 a0_4, .int .i8 a0_5] 38 (0, 0)) (by (with_reducible repeat (first | refine blk_drewN ?_ _ | refine blk_drew ?_ | refine blk_alloc ?_ _)); exact BK400.out) hb); have n1_ := Aside0.mk (below_step (by repeat (first | (with_reducible first | exact HB.out | apply below_alloc | apply pw_below_drewN | apply below_drew1 | refine below_set ?_ GE400.out) | exact HB.out)) hb); have n2_ := Aside0.mk (hbox); have n3_ := Aside0.mk ((by rw [hg]; exact (below_size (by repeat (first | (with_reducible first | exact HB.out | apply below_alloc | apply pw_below_drewN | apply below_drew1 | refine below_set ?_ GE400.out) | exact HB.out))) : w.heap.size ≤ gb401)); have n4_ := Aside0.mk ((by rw [hg]; exact (below_size (by repeat (first | (with_reducible first | exact HB.out | apply below_alloc | apply pw_below_drewN | apply below_drew1 | refine below_set ?_ GE400.out) | exact HB.out))) : w.heap.size ≤ gb401)); have n5_ := Aside0.mk ((by rw [hg]; exact Nat.ne_of_lt (blk_lt (g := gb400) (o := .cells #[.int .i16 a0_0, .int .i16 a0_1, .int .i16 a0_2, .int .i16 a0_3, .int .i16 a0_4, .int .i8 a0_5] 38 (0, 0)) (by (with_reducible repeat (first | refine blk_drewN ?_ _ | refine blk_drew ?_ | refine blk_alloc ?_ _)); exact BK400.out)) : gb400 ≠ gb401)); have n6_ := Aside0.mk ((by rw [hg]; exact Nat.ne_of_gt (blk_lt (g := gb400) (o := .cells #[.int .i16 a0_0, .int .i16 a0_1, .int .i16 a0_2, .int .i16 a0_3, .int .i16 a0_4, .int .i8 a0_5] 38 (0, 0)) (by (with_reducible repeat (first | refine blk_drewN ?_ _ | refine blk_drew ?_ | refine blk_alloc ?_ _)); exact BK400.out)) : gb401 ≠ gb400)); clear BK400; clear HB; have BK400 := n0_; have HB := n1_; have BK401 := n2_; have GW401 := n3_; have GE401 := n4_; have NB400_401 := n5_; have NB401_400 := n6_; clear n0_ n1_ n2_ n3_ n4_ n5_ n6_; clear hb hbox hg; have hnb41 := NB400_401.out; have hnc41 := NB401_400.out; have hcz42_0 : w40.cell? ⟨gb400, 0, none⟩ = some (.int .i16 a0_0) := (blk_cell BK400.out 0).trans rfl; have hcz42_1 : w40.cell? ⟨gb400, 1, none⟩ = some (.int .i16 a0_1) := (blk_cell BK400.out 1).trans rfl; have hcz42_2 : w40.cell? ⟨gb400, 2, none⟩ = some (.int .i16 a0_2) := (blk_cell BK400.out 2).trans rfl; have hcz42_3 : w40.cell? ⟨gb400, 3, none⟩ = some (.int .i16 a0_3) := (blk_cell BK400.out 3).trans rfl; have hcz42_4 : w40.cell? ⟨gb400, 4, none⟩ = some (.int .i16 a0_4) := (blk_cell BK400.out 4).trans rfl; have hcz42_5 : w40.cell? ⟨gb400, 5, none⟩ = some (.int .i8 a0_5) := (blk_cell BK400.out 5).trans rfl; have hfz42_0 := blk_frozen BK400.out 0; have hfz42_1 := blk_frozen BK400.out 1; have hfz42_2 := blk_frozen BK400.out 2; have hfz42_3 := blk_frozen BK400.out 3; have hfz42_4 := blk_frozen BK400.out 4; have hfz42_5 := blk_frozen BK400.out 5; have hcz43_0 : w40.cell? ⟨gb401, 0, none⟩ = some (.int .i16 a1_0) := (blk_cell BK401.out 0).trans rfl; have hcz43_1 : w40.cell? ⟨gb401, 1, none⟩ = some (.int .i16 a1_1) := (blk_cell BK401.out 1).trans rfl; have hcz43_2 : w40.cell? ⟨gb401, 2, none⟩ = some (.int .i16 a1_2) := (blk_cell BK401.out 2).trans rfl; have hcz43_3 : w40.cell? ⟨gb401, 3, none⟩ = some (.int .i16 a1_3) := (blk_cell BK401.out 3).trans rfl; have hcz43_4 : w40.cell? ⟨gb401, 4, none⟩ = some (.int .i16 a1_4) := (blk_cell BK401.out 4).trans rfl; have hcz43_5 : w40.cell? ⟨gb401, 5, none⟩ = some (.int .i8 a1_5) := (blk_cell BK401.out 5).trans rfl; have hfz43_0 := blk_frozen BK401.out 0; have hfz43_1 := blk_frozen BK401.out 1; have hfz43_2 := blk_frozen BK401.out 2; have hfz43_3 := blk_frozen BK401.out 3; have hfz43_4 := blk_frozen BK401.out 4; have hfz43_5 := blk_frozen BK401.out 5))
    go_ret
    exact ⟨by first | rfl | (simp [errW_none, errW_some] <;> rfl) | (simp [*, errW_none, errW_some] <;> rfl), by repeat (first | (with_reducible first | exact HB.out | apply below_alloc | apply pw_below_drewN | apply below_drew1 | refine below_set ?_ GE400.out | refine below_set ?_ GE401.out) | exact HB.out)⟩
end Go.Proofs.Ytmheflciiodhdaa.P
-- Written by wip/tools/mkprint.py of this repo, over the kit's print, out of the translation; Lean checks it.
namespace Go.Proofs.Ytmheflciiodhdaa.P
open Go.RowKit Go.Proofs.YtmheflciiodhdaaW.PrintWords Go.Proofs.YtmheflciiodhdaaW.PrintLast Go.Proofs.YtmheflciiodhdaaW.PrintMore
attribute [local go_sem] max2_int min2_int max_two min_two max_three min_three max_four min_four   -- for this text's walks alone
set_option linter.unusedVariables false
set_option linter.unusedSimpArgs false
/-! ### laws_eqWalkerS: function 28 -/
def laws_eqWalkerS.l0 : Nat → List (S38) → List (S38) → Int → Option (Bool)
  | 0, _, _, _ => none
  | k + 1, x0, x1, x5 => if x5 < (x0.length : Int) then (if 0 ≤ x5 then (if x5 < (x1.length : Int) then ((laws_eqWalker.f ((rd_T38 x0 x5).f0) ((rd_T38 x0 x5).f1) ((rd_T38 x0 x5).f2) ((rd_T38 x0 x5).f3) ((rd_T38 x0 x5).f4) ((rd_T38 x0 x5).f5) ((rd_T38 x1 x5).f0) ((rd_T38 x1 x5).f1) ((rd_T38 x1 x5).f2) ((rd_T38 x1 x5).f3) ((rd_T38 x1 x5).f4) ((rd_T38 x1 x5).f5)).bind fun t404 => (if t404 = true then (laws_eqWalkerS.l0 k x0 x1 (wrap64 (x5 + 1))) else (some false))) else (none)) else (none)) else (some true)
def laws_eqWalkerS.f (k : Nat) (l0 : List (S38)) (l1 : List (S38)) : Option (Bool) := if (l0.length : Int) = (l1.length : Int) then (laws_eqWalkerS.l0 k l0 l1 0) else (some false)
theorem laws_eqWalkerS.mono_l : ∀ k, (∀ y0 y1 y2, LeO (laws_eqWalkerS.l0 k y0 y1 y2) (laws_eqWalkerS.l0 (k + 1) y0 y1 y2))
  | 0 => fun _ _ _ r h => by simp [laws_eqWalkerS.l0] at h
  | k + 1 => by
    have ih0 := laws_eqWalkerS.mono_l k
    · intro y0 y1 y2
      unfold laws_eqWalkerS.l0
      repeat' first
      | (with_reducible exact ih0 _ _ _)
      | (with_reducible exact LeO.refl _)
      | (with_reducible exact LeO.none _)
      | (with_reducible refine LeO.ite ?_ ?_)
      | (with_reducible refine LeO.bind ?_ (fun _ => ?_))
      | exact ih0 _ _ _
      | exact LeO.none _
      | refine LeO.ite ?_ ?_
      | refine LeO.bind ?_ (fun _ => ?_)
theorem laws_eqWalkerS.mono : ∀ a0 a1 k, LeO (laws_eqWalkerS.f k a0 a1) (laws_eqWalkerS.f (k + 1) a0 a1) := by
  intro a0 a1 k
  have ih0 := laws_eqWalkerS.mono_l k
  unfold laws_eqWalkerS.f
  repeat' first
      | (with_reducible exact ih0 _ _ _)
      | (with_reducible exact LeO.refl _)
      | (with_reducible exact LeO.none _)
      | (with_reducible refine LeO.ite ?_ ?_)
      | (with_reducible refine LeO.bind ?_ (fun _ => ?_))
      | exact ih0 _ _ _
      | exact LeO.none _
      | refine LeO.ite ?_ ?_
      | refine LeO.bind ?_ (fun _ => ?_)
def laws_eqWalkerS.T6 : Bool × List (List Nat × List Nat) := (true, [([], []), ([], []), ([0, 1], [0, 1]), ([2], [2]), ([], []), ([], []), ([4, 5], [4, 5]), ([6], [6]), ([3, 7], [3, 7]), ([8], [8])])
def laws_eqWalkerS.B6 : List Nat := [0, 0, 3, 7, 0, 0, 48, 112, 255, 511]
theorem laws_eqWalkerS.tab6 : rtab .any (opsOf Try.f28 6) = laws_eqWalkerS.T6 := by kernel_rfl
theorem laws_eqWalkerS.bits6 : waitsOk laws_eqWalkerS.T6.2 laws_eqWalkerS.B6 = true := by kernel_rfl
set_option maxHeartbeats 8000000 in
set_option maxRecDepth 100000 in
theorem laws_eqWalkerS.calls (k : Nat) (A0 : Option Addr) (c0 : Nat) (l0 : List (S38)) (A1 : Option Addr) (c1 : Nat) (l1 : List (S38)) (r : Bool) (w : World) (hr0 : Kd.C k38 w A0 l0.length l0) (hc0 : l0.length ≤ c0) (hr1 : Kd.C k38 w A1 l1.length l1) (hc1 : l1.length ≤ c1) (h : laws_eqWalkerS.f k l0 l1 = some r) :
    Calls Try.prog 28 #[.slice A0 l0.length c0, .slice A1 l1.length c1] w fun e w' => e = .returned (.bool r) ∧ Below w.heap.size w w' := by
  have hu38 := Try.underlying38
  have HR0 := Aside0.mk hr0
  have HC0 := Aside0.mk hc0
  clear hr0 hc0
  have HR1 := Aside0.mk hr1
  have HC1 := Aside0.mk hc1
  clear hr1 hc1
  have HB := Aside0.mk (Below.refl w.heap.size w)
  have H : (if (l0.length : Int) = (l1.length : Int) then (laws_eqWalkerS.l0 k l0 l1 0) else (some false)) = some r := h
  clear h
  by_cases c3 : (l0.length : Int) = (l1.length : Int)
  · rw [if_pos c3] at H
    have c3b0 : ((l0.length : Int) == (l1.length : Int)) = true := beq_iff_eq.mpr c3
    have c3b1 : ((l0.length : Int) != (l1.length : Int)) = false := bne_eq_false_iff_eq.mpr c3
    have c3b2 : (l0.length == l1.length) = true := by first | simpa using c3 | (simp at c3 ⊢; omega)
    clear c3
    have H' := Aside0.mk H
    clear H
    go_enter Try.func28, Try.ntmps28
    go_wp2
    go_loopg [5] k (fun kq v5 w' => ∃ (x5_1 : Int), v5 = .int .i64 x5_1 ∧ Aside0 (laws_eqWalkerS.l0 kq l0 l1 x5_1 = some r) ∧ Aside0 (kq ≤ k) ∧ Aside0 (Below w.heap.size w w'))
    case atStart => exact ⟨(0), (by first | rfl | (simp; done) | (simp [*]; done)), H', ⟨Nat.le_refl _⟩, ⟨by repeat (first | (with_reducible first | exact HB.out | apply below_alloc | apply pw_below_drewN | apply below_drew1) | exact HB.out)⟩⟩
    case round =>
      clear H'
      try clear c1
      try clear c2
      try clear p2
      try clear c3
      try clear c3b0
      try clear c3b1
      try clear c3b2
      obtain ⟨x5_1, rfl, HA, HK1, HB⟩ := hrel
      cases gk with
      | zero => exact absurd HA.out (by simp [laws_eqWalkerS.l0])
      | succ k1 =>
        have H := HA.out
        clear HA
        simp only [laws_eqWalkerS.l0] at H
        by_cases c4 : x5_1 < (l0.length : Int)
        · rw [if_pos c4] at H
          have c4b0 : decide (x5_1 < (l0.length : Int)) = true := decide_eq_true c4
          clear c4
          by_cases c5 : 0 ≤ x5_1
          · rw [if_pos c5] at H
            have c5b0 : decide (0 ≤ x5_1) = true := decide_eq_true c5
            clear c5
            by_cases c6 : x5_1 < (l1.length : Int)
            · rw [if_pos c6] at H
              have c6b0 : decide (x5_1 < (l1.length : Int)) = true := decide_eq_true c6
              clear c6
              replace H := Option.bind_eq_some_iff.mp H
              obtain ⟨t404, A70, H⟩ := H
              replace H : (if t404 = true then (laws_eqWalkerS.l0 k1 l0 l1 (wrap64 (x5_1 + 1))) else (some false)) = some r := H
              have A7 := Aside0.mk A70
              clear A70
              by_cases c8 : t404 = true
              · subst c8
                have H1 : (laws_eqWalkerS.l0 k1 l0 l1 (wrap64 (x5_1 + 1))) = some r := by rw [if_pos rfl] at H; exact H
                clear H
                have H := H1
                clear H1
                have H' := Aside0.mk H
                clear H
                try go_wp2
                have n0_ := Aside0.mk (below_drew1 HB.out)
                clear HB
                have HB := n0_
                clear n0_
                have p402 : 0 ≤ (x5_1 : Int) := of_decide_eq_true (by first | (with_reducible assumption) | assumption)
                have q402 : x5_1 < (l0.length : Int) := of_decide_eq_true (by first | (with_reducible assumption) | assumption)
                obtain ⟨ad402, e402, hx402_0, hx402_1, hx402_2, hx402_3, hx402_4, hx402_5⟩ := at_T38 HR0.out x5_1 p402 q402
                have hw402_5 := hx402_5
                have hw402_4 := hx402_4
                have hw402_3 := hx402_3
                have hw402_2 := hx402_2
                have hw402_1 := hx402_1
                have hw402_0 := hx402_0
                cases e402
                replace hx402_0 := (HB.out.cell (World.block_lt_of_cell? w _ hx402_0)).trans hx402_0
                replace hx402_1 := (HB.out.cell (World.block_lt_of_cell? w _ hx402_1)).trans hx402_1
                replace hx402_2 := (HB.out.cell (World.block_lt_of_cell? w _ hx402_2)).trans hx402_2
                replace hx402_3 := (HB.out.cell (World.block_lt_of_cell? w _ hx402_3)).trans hx402_3
                replace hx402_4 := (HB.out.cell (World.block_lt_of_cell? w _ hx402_4)).trans hx402_4
                replace hx402_5 := (HB.out.cell (World.block_lt_of_cell? w _ hx402_5)).trans hx402_5
                replace p402 := eq_true p402
                replace q402 := eq_true q402
                have p403 : 0 ≤ (x5_1 : Int) := of_decide_eq_true (by first | (with_reducible assumption) | assumption)
                have q403 : x5_1 < (l1.length : Int) := of_decide_eq_true (by first | (with_reducible assumption) | assumption)
                obtain ⟨ad403, e403, hx403_0, hx403_1, hx403_2, hx403_3, hx403_4, hx403_5⟩ := at_T38 HR1.out x5_1 p403 q403
                have hw403_5 := hx403_5
                have hw403_4 := hx403_4
                have hw403_3 := hx403_3
                have hw403_2 := hx403_2
                have hw403_1 := hx403_1
                have hw403_0 := hx403_0
                cases e403
                replace hx403_0 := (HB.out.cell (World.block_lt_of_cell? w _ hx403_0)).trans hx403_0
                replace hx403_1 := (HB.out.cell (World.block_lt_of_cell? w _ hx403_1)).trans hx403_1
                replace hx403_2 := (HB.out.cell (World.block_lt_of_cell? w _ hx403_2)).trans hx403_2
                replace hx403_3 := (HB.out.cell (World.block_lt_of_cell? w _ hx403_3)).trans hx403_3
                replace hx403_4 := (HB.out.cell (World.block_lt_of_cell? w _ hx403_4)).trans hx403_4
                replace hx403_5 := (HB.out.cell (World.block_lt_of_cell? w _ hx403_5)).trans hx403_5
                replace p403 := eq_true p403
                replace q403 := eq_true q403
                refine start_ (n := 10) (S := fun w' => w'.cell? (ad402.add ((x5_1).toNat * 6)) = some (.int .i16 ((rd_T38 l0 x5_1).f0)) ∧ w'.cell? ⟨(ad402.add ((x5_1).toNat * 6)).block, (ad402.add ((x5_1).toNat * 6)).off + 1, none⟩ = some (.int .i16 ((rd_T38 l0 x5_1).f1)) ∧ w'.cell? ⟨(ad402.add ((x5_1).toNat * 6)).block, (ad402.add ((x5_1).toNat * 6)).off + 2, none⟩ = some (.int .i16 ((rd_T38 l0 x5_1).f2)) ∧ w'.cell? ⟨(ad402.add ((x5_1).toNat * 6)).block, (ad402.add ((x5_1).toNat * 6)).off + 3, none⟩ = some (.int .i16 ((rd_T38 l0 x5_1).f3)) ∧ w'.cell? ⟨(ad402.add ((x5_1).toNat * 6)).block, (ad402.add ((x5_1).toNat * 6)).off + 4, none⟩ = some (.int .i16 ((rd_T38 l0 x5_1).f4)) ∧ w'.cell? ⟨(ad402.add ((x5_1).toNat * 6)).block, (ad402.add ((x5_1).toNat * 6)).off + 5, none⟩ = some (.int .i8 ((rd_T38 l0 x5_1).f5)) ∧ w'.cell? (ad403.add ((x5_1).toNat * 6)) = some (.int .i16 ((rd_T38 l1 x5_1).f0)) ∧ w'.cell? ⟨(ad403.add ((x5_1).toNat * 6)).block, (ad403.add ((x5_1).toNat * 6)).off + 1, none⟩ = some (.int .i16 ((rd_T38 l1 x5_1).f1)) ∧ w'.cell? ⟨(ad403.add ((x5_1).toNat * 6)).block, (ad403.add ((x5_1).toNat * 6)).off + 2, none⟩ = some (.int .i16 ((rd_T38 l1 x5_1).f2)) ∧ w'.cell? ⟨(ad403.add ((x5_1).toNat * 6)).block, (ad403.add ((x5_1).toNat * 6)).off + 3, none⟩ = some (.int .i16 ((rd_T38 l1 x5_1).f3)) ∧ w'.cell? ⟨(ad403.add ((x5_1).toNat * 6)).block, (ad403.add ((x5_1).toNat * 6)).off + 4, none⟩ = some (.int .i16 ((rd_T38 l1 x5_1).f4)) ∧ w'.cell? ⟨(ad403.add ((x5_1).toNat * 6)).block, (ad403.add ((x5_1).toNat * 6)).off + 5, none⟩ = some (.int .i8 ((rd_T38 l1 x5_1).f5))) (ds := []) #[false, false, false, false, false, false, false, false, false, false] (by kernel_rfl) rfl rfl ⟨((HB.out.cell (World.block_lt_of_cell? w _ hw402_0)).trans hw402_0), ((HB.out.cell (World.block_lt_of_cell? w _ hw402_1)).trans hw402_1), ((HB.out.cell (World.block_lt_of_cell? w _ hw402_2)).trans hw402_2), ((HB.out.cell (World.block_lt_of_cell? w _ hw402_3)).trans hw402_3), ((HB.out.cell (World.block_lt_of_cell? w _ hw402_4)).trans hw402_4), ((HB.out.cell (World.block_lt_of_cell? w _ hw402_5)).trans hw402_5), ((HB.out.cell (World.block_lt_of_cell? w _ hw403_0)).trans hw403_0), ((HB.out.cell (World.block_lt_of_cell? w _ hw403_1)).trans hw403_1), ((HB.out.cell (World.block_lt_of_cell? w _ hw403_2)).trans hw403_2), ((HB.out.cell (World.block_lt_of_cell? w _ hw403_3)).trans hw403_3), ((HB.out.cell (World.block_lt_of_cell? w _ hw403_4)).trans hw403_4), ((HB.out.cell (World.block_lt_of_cell? w _ hw403_5)).trans hw403_5)⟩ (fun hHeld => ?_); refine with_tabW laws_eqWalkerS.tab6 laws_eqWalkerS.bits6 (fun HT_ HW_ => ?_)
                generalize wr.drew = w9 at HB hx402_0 hx402_1 hx402_2 hx402_3 hx402_4 hx402_5 hx403_0 hx403_1 hx403_2 hx403_3 hx403_4 hx403_5 hHeld ⊢
                refine pure_ (i := 0) (N := some 17) (v := ?_) (a' := ?_) #[true, false, false, false, false, false, false, false, false, false] rfl rfl (any_of HT_.out (by kernel_rfl)) (fun _ _ _ h => h) (Or.inl ⟨by rfl, ?_⟩) ?_ ?_
                rotate_left
                · intro w'
                  go_simp
                  with_reducible rfl
                rotate_left
                · simp only [Act.put, List.setIfInBounds_toArray, List.set_cons_zero, List.set_cons_succ, i64_w, i32_w]
                  rfl
                refine pure_ (i := 1) (N := some 18) (v := ?_) (a' := ?_) #[true, true, false, false, false, false, false, false, false, false] rfl rfl (any_of HT_.out (by kernel_rfl)) (fun _ _ _ h => h) (Or.inl ⟨by rfl, ?_⟩) ?_ ?_
                rotate_left
                · intro w'
                  go_simp
                  with_reducible rfl
                rotate_left
                · simp only [Act.put, List.setIfInBounds_toArray, List.set_cons_zero, List.set_cons_succ, i64_w, i32_w]
                  rfl
                refine pure_ (i := 2) (N := some 19) (v := ?_) (a' := ?_) #[true, true, true, false, false, false, false, false, false, false] rfl rfl (any_of HT_.out (by kernel_rfl)) (fun _ _ _ h => h) (Or.inl ⟨by rfl, ?_⟩) ?_ ?_
                rotate_left
                · intro w'
                  go_simp
                  with_reducible rfl
                rotate_left
                · simp only [Act.put, List.setIfInBounds_toArray, List.set_cons_zero, List.set_cons_succ, i64_w, i32_w]
                  rfl
                refine pure_ (i := 4) (N := some 21) (v := ?_) (a' := ?_) #[true, true, true, false, true, false, false, false, false, false] rfl rfl (any_of HT_.out (by kernel_rfl)) (fun _ _ _ h => h) (Or.inl ⟨by rfl, ?_⟩) ?_ ?_
                rotate_left
                · intro w'
                  go_simp
                  with_reducible rfl
                rotate_left
                · simp only [Act.put, List.setIfInBounds_toArray, List.set_cons_zero, List.set_cons_succ, i64_w, i32_w]
                  rfl
                refine pure_ (i := 5) (N := some 22) (v := ?_) (a' := ?_) #[true, true, true, false, true, true, false, false, false, false] rfl rfl (any_of HT_.out (by kernel_rfl)) (fun _ _ _ h => h) (Or.inl ⟨by rfl, ?_⟩) ?_ ?_
                rotate_left
                · intro w'
                  go_simp
                  with_reducible rfl
                rotate_left
                · simp only [Act.put, List.setIfInBounds_toArray, List.set_cons_zero, List.set_cons_succ, i64_w, i32_w]
                  rfl
                refine pure_ (i := 6) (N := some 23) (v := ?_) (a' := ?_) #[true, true, true, false, true, true, true, false, false, false] rfl rfl (any_of HT_.out (by kernel_rfl)) (fun _ _ _ h => h) (Or.inl ⟨by rfl, ?_⟩) ?_ ?_
                rotate_left
                · intro w'
                  go_simp
                  with_reducible rfl
                rotate_left
                · simp only [Act.put, List.setIfInBounds_toArray, List.set_cons_zero, List.set_cons_succ, i64_w, i32_w]
                  rfl
                refine take_ (i := 3) (N := some 20) (v := ?_) (a' := ?_) #[true, true, true, true, true, true, true, false, false, false] rfl rfl (take_ofW HT_.out HW_.out (by kernel_rfl)) (fun _ _ _ h => h) (Or.inl ⟨by rfl, ?_⟩) hHeld ?_ ?_
                rotate_left
                · rintro w' ⟨s0, s1, s2, s3, s4, s5, s6, s7, s8, s9, s10, s11⟩
                  go_simp
                  with_reducible rfl
                rotate_left
                · simp only [Act.put, List.setIfInBounds_toArray, List.set_cons_zero, List.set_cons_succ, i64_w, i32_w]
                  rfl
                refine take_ (i := 7) (N := some 24) (v := ?_) (a' := ?_) #[true, true, true, true, true, true, true, true, false, false] rfl rfl (take_ofW HT_.out HW_.out (by kernel_rfl)) (fun _ _ _ h => h) (Or.inl ⟨by rfl, ?_⟩) hHeld ?_ ?_
                rotate_left
                · rintro w' ⟨s0, s1, s2, s3, s4, s5, s6, s7, s8, s9, s10, s11⟩
                  go_simp
                  with_reducible rfl
                rotate_left
                · simp only [Act.put, List.setIfInBounds_toArray, List.set_cons_zero, List.set_cons_succ, i64_w, i32_w]
                  rfl
                refine one_ (i := 8) (N := some 25) #[true, true, true, true, true, true, true, true, true, false] rfl rfl (one_of HT_.out (by kernel_rfl)) (by decide) (fun K hK => ?_)
                refine goes_ Try.func89 (by kernel_rfl) rfl #[.agg #[.int .i16 ((rd_T38 l0 x5_1).f0), .int .i16 ((rd_T38 l0 x5_1).f1), .int .i16 ((rd_T38 l0 x5_1).f2), .int .i16 ((rd_T38 l0 x5_1).f3), .int .i16 ((rd_T38 l0 x5_1).f4), .int .i8 ((rd_T38 l0 x5_1).f5)], .agg #[.int .i16 ((rd_T38 l1 x5_1).f0), .int .i16 ((rd_T38 l1 x5_1).f1), .int .i16 ((rd_T38 l1 x5_1).f2), .int .i16 ((rd_T38 l1 x5_1).f3), .int .i16 ((rd_T38 l1 x5_1).f4), .int .i8 ((rd_T38 l1 x5_1).f5)]] (by rfl) rfl rfl (by (try simp only [List.map_toArray, List.map_cons, List.map_nil]); first | done | rfl | (simp only [List.length_drop, List.length_take]; rfl)) ?_
                with_reducible refine (laws_eqWalker.calls ((rd_T38 l0 x5_1).f0) ((rd_T38 l0 x5_1).f1) ((rd_T38 l0 x5_1).f2) ((rd_T38 l0 x5_1).f3) ((rd_T38 l0 x5_1).f4) ((rd_T38 l0 x5_1).f5) ((rd_T38 l1 x5_1).f0) ((rd_T38 l1 x5_1).f1) ((rd_T38 l1 x5_1).f2) ((rd_T38 l1 x5_1).f3) ((rd_T38 l1 x5_1).f4) ((rd_T38 l1 x5_1).f5) true _ A7.out).mono ?_
                rintro e w10 ⟨rfl, hb⟩
                refine ⟨_, rfl, ?_⟩
                have n0_ := Aside0.mk (below_step (by repeat (first | (with_reducible first | exact HB.out | apply below_alloc | apply pw_below_drewN | apply below_drew1) | exact HB.out)) hb)
                clear HB
                have HB := n0_
                clear n0_
                (try clear hb)
                (try clear hb2)
                (try clear hk)
                (try clear hi)
                refine hK.out _ _ ⟨((HB.out.cell (World.block_lt_of_cell? w _ hw402_0)).trans hw402_0), ((HB.out.cell (World.block_lt_of_cell? w _ hw402_1)).trans hw402_1), ((HB.out.cell (World.block_lt_of_cell? w _ hw402_2)).trans hw402_2), ((HB.out.cell (World.block_lt_of_cell? w _ hw402_3)).trans hw402_3), ((HB.out.cell (World.block_lt_of_cell? w _ hw402_4)).trans hw402_4), ((HB.out.cell (World.block_lt_of_cell? w _ hw402_5)).trans hw402_5), ((HB.out.cell (World.block_lt_of_cell? w _ hw403_0)).trans hw403_0), ((HB.out.cell (World.block_lt_of_cell? w _ hw403_1)).trans hw403_1), ((HB.out.cell (World.block_lt_of_cell? w _ hw403_2)).trans hw403_2), ((HB.out.cell (World.block_lt_of_cell? w _ hw403_3)).trans hw403_3), ((HB.out.cell (World.block_lt_of_cell? w _ hw403_4)).trans hw403_4), ((HB.out.cell (World.block_lt_of_cell? w _ hw403_5)).trans hw403_5)⟩ (fun hHeld => ?_)
                clear hK K
                refine norm_ (a' := ?_) ?_ ?_
                rotate_left
                · show Act.put _ (some 25) _ = _
                  simp only [Act.put, List.setIfInBounds_toArray, List.set_cons_zero, List.set_cons_succ, i64_w, i32_w]
                  rfl
                refine pure_ (i := 9) (N := some 26) (v := ?_) (a' := ?_) #[true, true, true, true, true, true, true, true, true, true] rfl rfl (any_of HT_.out (by kernel_rfl)) (fun _ _ _ h => h) (Or.inl ⟨by rfl, ?_⟩) ?_ ?_
                rotate_left
                · intro w'
                  go_simp
                  with_reducible rfl
                rotate_left
                · simp only [Act.put, List.setIfInBounds_toArray, List.set_cons_zero, List.set_cons_succ, i64_w, i32_w]
                  rfl
                refine done_ (done_of HT_.out (by kernel_rfl)) ?_
                try go_wp2
                go_roundg k1
                case measure => have := HK1.out; omega
                case rel => exact ⟨(wrap64 (x5_1 + 1)), (by first | rfl | (simp; done) | (simp [*]; done)), H', ⟨by have := HK1.out; omega⟩, ⟨by repeat (first | (with_reducible first | exact HB.out | apply below_alloc | apply pw_below_drewN | apply below_drew1) | exact HB.out)⟩⟩
              · replace c8 := Bool.eq_false_iff.mpr c8
                subst c8
                have H1 : (some false) = some r := by rw [if_neg (show ¬ (false = true) by decide)] at H; exact H
                clear H
                have H := H1
                clear H1
                obtain rfl := Option.some.inj H
                try go_wp2
                have n0_ := Aside0.mk (below_drew1 HB.out)
                clear HB
                have HB := n0_
                clear n0_
                have p402 : 0 ≤ (x5_1 : Int) := of_decide_eq_true (by first | (with_reducible assumption) | assumption)
                have q402 : x5_1 < (l0.length : Int) := of_decide_eq_true (by first | (with_reducible assumption) | assumption)
                obtain ⟨ad402, e402, hx402_0, hx402_1, hx402_2, hx402_3, hx402_4, hx402_5⟩ := at_T38 HR0.out x5_1 p402 q402
                have hw402_5 := hx402_5
                have hw402_4 := hx402_4
                have hw402_3 := hx402_3
                have hw402_2 := hx402_2
                have hw402_1 := hx402_1
                have hw402_0 := hx402_0
                cases e402
                replace hx402_0 := (HB.out.cell (World.block_lt_of_cell? w _ hx402_0)).trans hx402_0
                replace hx402_1 := (HB.out.cell (World.block_lt_of_cell? w _ hx402_1)).trans hx402_1
                replace hx402_2 := (HB.out.cell (World.block_lt_of_cell? w _ hx402_2)).trans hx402_2
                replace hx402_3 := (HB.out.cell (World.block_lt_of_cell? w _ hx402_3)).trans hx402_3
                replace hx402_4 := (HB.out.cell (World.block_lt_of_cell? w _ hx402_4)).trans hx402_4
                replace hx402_5 := (HB.out.cell (World.block_lt_of_cell? w _ hx402_5)).trans hx402_5
                replace p402 := eq_true p402
                replace q402 := eq_true q402
                have p403 : 0 ≤ (x5_1 : Int) := of_decide_eq_true (by first | (with_reducible assumption) | assumption)
                have q403 : x5_1 < (l1.length : Int) := of_decide_eq_true (by first | (with_reducible assumption) | assumption)
                obtain ⟨ad403, e403, hx403_0, hx403_1, hx403_2, hx403_3, hx403_4, hx403_5⟩ := at_T38 HR1.out x5_1 p403 q403
                have hw403_5 := hx403_5
                have hw403_4 := hx403_4
                have hw403_3 := hx403_3
                have hw403_2 := hx403_2
                have hw403_1 := hx403_1
                have hw403_0 := hx403_0
                cases e403
                replace hx403_0 := (HB.out.cell (World.block_lt_of_cell? w _ hx403_0)).trans hx403_0
                replace hx403_1 := (HB.out.cell (World.block_lt_of_cell? w _ hx403_1)).trans hx403_1
                replace hx403_2 := (HB.out.cell (World.block_lt_of_cell? w _ hx403_2)).trans hx403_2
                replace hx403_3 := (HB.out.cell (World.block_lt_of_cell? w _ hx403_3)).trans hx403_3
                replace hx403_4 := (HB.out.cell (World.block_lt_of_cell? w _ hx403_4)).trans hx403_4
                replace hx403_5 := (HB.out.cell (World.block_lt_of_cell? w _ hx403_5)).trans hx403_5
                replace p403 := eq_true p403
                replace q403 := eq_true q403
                refine start_ (n := 10) (S := fun w' => w'.cell? (ad402.add ((x5_1).toNat * 6)) = some (.int .i16 ((rd_T38 l0 x5_1).f0)) ∧ w'.cell? ⟨(ad402.add ((x5_1).toNat * 6)).block, (ad402.add ((x5_1).toNat * 6)).off + 1, none⟩ = some (.int .i16 ((rd_T38 l0 x5_1).f1)) ∧ w'.cell? ⟨(ad402.add ((x5_1).toNat * 6)).block, (ad402.add ((x5_1).toNat * 6)).off + 2, none⟩ = some (.int .i16 ((rd_T38 l0 x5_1).f2)) ∧ w'.cell? ⟨(ad402.add ((x5_1).toNat * 6)).block, (ad402.add ((x5_1).toNat * 6)).off + 3, none⟩ = some (.int .i16 ((rd_T38 l0 x5_1).f3)) ∧ w'.cell? ⟨(ad402.add ((x5_1).toNat * 6)).block, (ad402.add ((x5_1).toNat * 6)).off + 4, none⟩ = some (.int .i16 ((rd_T38 l0 x5_1).f4)) ∧ w'.cell? ⟨(ad402.add ((x5_1).toNat * 6)).block, (ad402.add ((x5_1).toNat * 6)).off + 5, none⟩ = some (.int .i8 ((rd_T38 l0 x5_1).f5)) ∧ w'.cell? (ad403.add ((x5_1).toNat * 6)) = some (.int .i16 ((rd_T38 l1 x5_1).f0)) ∧ w'.cell? ⟨(ad403.add ((x5_1).toNat * 6)).block, (ad403.add ((x5_1).toNat * 6)).off + 1, none⟩ = some (.int .i16 ((rd_T38 l1 x5_1).f1)) ∧ w'.cell? ⟨(ad403.add ((x5_1).toNat * 6)).block, (ad403.add ((x5_1).toNat * 6)).off + 2, none⟩ = some (.int .i16 ((rd_T38 l1 x5_1).f2)) ∧ w'.cell? ⟨(ad403.add ((x5_1).toNat * 6)).block, (ad403.add ((x5_1).toNat * 6)).off + 3, none⟩ = some (.int .i16 ((rd_T38 l1 x5_1).f3)) ∧ w'.cell? ⟨(ad403.add ((x5_1).toNat * 6)).block, (ad403.add ((x5_1).toNat * 6)).off + 4, none⟩ = some (.int .i16 ((rd_T38 l1 x5_1).f4)) ∧ w'.cell? ⟨(ad403.add ((x5_1).toNat * 6)).block, (ad403.add ((x5_1).toNat * 6)).off + 5, none⟩ = some (.int .i8 ((rd_T38 l1 x5_1).f5))) (ds := []) #[false, false, false, false, false, false, false, false, false, false] (by kernel_rfl) rfl rfl ⟨((HB.out.cell (World.block_lt_of_cell? w _ hw402_0)).trans hw402_0), ((HB.out.cell (World.block_lt_of_cell? w _ hw402_1)).trans hw402_1), ((HB.out.cell (World.block_lt_of_cell? w _ hw402_2)).trans hw402_2), ((HB.out.cell (World.block_lt_of_cell? w _ hw402_3)).trans hw402_3), ((HB.out.cell (World.block_lt_of_cell? w _ hw402_4)).trans hw402_4), ((HB.out.cell (World.block_lt_of_cell? w _ hw402_5)).trans hw402_5), ((HB.out.cell (World.block_lt_of_cell? w _ hw403_0)).trans hw403_0), ((HB.out.cell (World.block_lt_of_cell? w _ hw403_1)).trans hw403_1), ((HB.out.cell (World.block_lt_of_cell? w _ hw403_2)).trans hw403_2), ((HB.out.cell (World.block_lt_of_cell? w _ hw403_3)).trans hw403_3), ((HB.out.cell (World.block_lt_of_cell? w _ hw403_4)).trans hw403_4), ((HB.out.cell (World.block_lt_of_cell? w _ hw403_5)).trans hw403_5)⟩ (fun hHeld => ?_); refine with_tabW laws_eqWalkerS.tab6 laws_eqWalkerS.bits6 (fun HT_ HW_ => ?_)
                generalize wr.drew = w11 at HB hx402_0 hx402_1 hx402_2 hx402_3 hx402_4 hx402_5 hx403_0 hx403_1 hx403_2 hx403_3 hx403_4 hx403_5 hHeld ⊢
                refine pure_ (i := 0) (N := some 17) (v := ?_) (a' := ?_) #[true, false, false, false, false, false, false, false, false, false] rfl rfl (any_of HT_.out (by kernel_rfl)) (fun _ _ _ h => h) (Or.inl ⟨by rfl, ?_⟩) ?_ ?_
                rotate_left
                · intro w'
                  go_simp
                  with_reducible rfl
                rotate_left
                · simp only [Act.put, List.setIfInBounds_toArray, List.set_cons_zero, List.set_cons_succ, i64_w, i32_w]
                  rfl
                refine pure_ (i := 1) (N := some 18) (v := ?_) (a' := ?_) #[true, true, false, false, false, false, false, false, false, false] rfl rfl (any_of HT_.out (by kernel_rfl)) (fun _ _ _ h => h) (Or.inl ⟨by rfl, ?_⟩) ?_ ?_
                rotate_left
                · intro w'
                  go_simp
                  with_reducible rfl
                rotate_left
                · simp only [Act.put, List.setIfInBounds_toArray, List.set_cons_zero, List.set_cons_succ, i64_w, i32_w]
                  rfl
                refine pure_ (i := 2) (N := some 19) (v := ?_) (a' := ?_) #[true, true, true, false, false, false, false, false, false, false] rfl rfl (any_of HT_.out (by kernel_rfl)) (fun _ _ _ h => h) (Or.inl ⟨by rfl, ?_⟩) ?_ ?_
                rotate_left
                · intro w'
                  go_simp
                  with_reducible rfl
                rotate_left
                · simp only [Act.put, List.setIfInBounds_toArray, List.set_cons_zero, List.set_cons_succ, i64_w, i32_w]
                  rfl
                refine pure_ (i := 4) (N := some 21) (v := ?_) (a' := ?_) #[true, true, true, false, true, false, false, false, false, false] rfl rfl (any_of HT_.out (by kernel_rfl)) (fun _ _ _ h => h) (Or.inl ⟨by rfl, ?_⟩) ?_ ?_
                rotate_left
                · intro w'
                  go_simp
                  with_reducible rfl
                rotate_left
                · simp only [Act.put, List.setIfInBounds_toArray, List.set_cons_zero, List.set_cons_succ, i64_w, i32_w]
                  rfl
                refine pure_ (i := 5) (N := some 22) (v := ?_) (a' := ?_) #[true, true, true, false, true, true, false, false, false, false] rfl rfl (any_of HT_.out (by kernel_rfl)) (fun _ _ _ h => h) (Or.inl ⟨by rfl, ?_⟩) ?_ ?_
                rotate_left
                · intro w'
                  go_simp
                  with_reducible rfl
                rotate_left
                · simp only [Act.put, List.setIfInBounds_toArray, List.set_cons_zero, List.set_cons_succ, i64_w, i32_w]
                  rfl
                refine pure_ (i := 6) (N := some 23) (v := ?_) (a' := ?_) #[true, true, true, false, true, true, true, false, false, false] rfl rfl (any_of HT_.out (by kernel_rfl)) (fun _ _ _ h => h) (Or.inl ⟨by rfl, ?_⟩) ?_ ?_
                rotate_left
                · intro w'
                  go_simp
                  with_reducible rfl
                rotate_left
                · simp only [Act.put, List.setIfInBounds_toArray, List.set_cons_zero, List.set_cons_succ, i64_w, i32_w]
                  rfl
                refine take_ (i := 3) (N := some 20) (v := ?_) (a' := ?_) #[true, true, true, true, true, true, true, false, false, false] rfl rfl (take_ofW HT_.out HW_.out (by kernel_rfl)) (fun _ _ _ h => h) (Or.inl ⟨by rfl, ?_⟩) hHeld ?_ ?_
                rotate_left
                · rintro w' ⟨s0, s1, s2, s3, s4, s5, s6, s7, s8, s9, s10, s11⟩
                  go_simp
                  with_reducible rfl
                rotate_left
                · simp only [Act.put, List.setIfInBounds_toArray, List.set_cons_zero, List.set_cons_succ, i64_w, i32_w]
                  rfl
                refine take_ (i := 7) (N := some 24) (v := ?_) (a' := ?_) #[true, true, true, true, true, true, true, true, false, false] rfl rfl (take_ofW HT_.out HW_.out (by kernel_rfl)) (fun _ _ _ h => h) (Or.inl ⟨by rfl, ?_⟩) hHeld ?_ ?_
                rotate_left
                · rintro w' ⟨s0, s1, s2, s3, s4, s5, s6, s7, s8, s9, s10, s11⟩
                  go_simp
                  with_reducible rfl
                rotate_left
                · simp only [Act.put, List.setIfInBounds_toArray, List.set_cons_zero, List.set_cons_succ, i64_w, i32_w]
                  rfl
                refine one_ (i := 8) (N := some 25) #[true, true, true, true, true, true, true, true, true, false] rfl rfl (one_of HT_.out (by kernel_rfl)) (by decide) (fun K hK => ?_)
                refine goes_ Try.func89 (by kernel_rfl) rfl #[.agg #[.int .i16 ((rd_T38 l0 x5_1).f0), .int .i16 ((rd_T38 l0 x5_1).f1), .int .i16 ((rd_T38 l0 x5_1).f2), .int .i16 ((rd_T38 l0 x5_1).f3), .int .i16 ((rd_T38 l0 x5_1).f4), .int .i8 ((rd_T38 l0 x5_1).f5)], .agg #[.int .i16 ((rd_T38 l1 x5_1).f0), .int .i16 ((rd_T38 l1 x5_1).f1), .int .i16 ((rd_T38 l1 x5_1).f2), .int .i16 ((rd_T38 l1 x5_1).f3), .int .i16 ((rd_T38 l1 x5_1).f4), .int .i8 ((rd_T38 l1 x5_1).f5)]] (by rfl) rfl rfl (by (try simp only [List.map_toArray, List.map_cons, List.map_nil]); first | done | rfl | (simp only [List.length_drop, List.length_take]; rfl)) ?_
                with_reducible refine (laws_eqWalker.calls ((rd_T38 l0 x5_1).f0) ((rd_T38 l0 x5_1).f1) ((rd_T38 l0 x5_1).f2) ((rd_T38 l0 x5_1).f3) ((rd_T38 l0 x5_1).f4) ((rd_T38 l0 x5_1).f5) ((rd_T38 l1 x5_1).f0) ((rd_T38 l1 x5_1).f1) ((rd_T38 l1 x5_1).f2) ((rd_T38 l1 x5_1).f3) ((rd_T38 l1 x5_1).f4) ((rd_T38 l1 x5_1).f5) false _ A7.out).mono ?_
                rintro e w12 ⟨rfl, hb⟩
                refine ⟨_, rfl, ?_⟩
                have n0_ := Aside0.mk (below_step (by repeat (first | (with_reducible first | exact HB.out | apply below_alloc | apply pw_below_drewN | apply below_drew1) | exact HB.out)) hb)
                clear HB
                have HB := n0_
                clear n0_
                (try clear hb)
                (try clear hb2)
                (try clear hk)
                (try clear hi)
                refine hK.out _ _ ⟨((HB.out.cell (World.block_lt_of_cell? w _ hw402_0)).trans hw402_0), ((HB.out.cell (World.block_lt_of_cell? w _ hw402_1)).trans hw402_1), ((HB.out.cell (World.block_lt_of_cell? w _ hw402_2)).trans hw402_2), ((HB.out.cell (World.block_lt_of_cell? w _ hw402_3)).trans hw402_3), ((HB.out.cell (World.block_lt_of_cell? w _ hw402_4)).trans hw402_4), ((HB.out.cell (World.block_lt_of_cell? w _ hw402_5)).trans hw402_5), ((HB.out.cell (World.block_lt_of_cell? w _ hw403_0)).trans hw403_0), ((HB.out.cell (World.block_lt_of_cell? w _ hw403_1)).trans hw403_1), ((HB.out.cell (World.block_lt_of_cell? w _ hw403_2)).trans hw403_2), ((HB.out.cell (World.block_lt_of_cell? w _ hw403_3)).trans hw403_3), ((HB.out.cell (World.block_lt_of_cell? w _ hw403_4)).trans hw403_4), ((HB.out.cell (World.block_lt_of_cell? w _ hw403_5)).trans hw403_5)⟩ (fun hHeld => ?_)
                clear hK K
                refine norm_ (a' := ?_) ?_ ?_
                rotate_left
                · show Act.put _ (some 25) _ = _
                  simp only [Act.put, List.setIfInBounds_toArray, List.set_cons_zero, List.set_cons_succ, i64_w, i32_w]
                  rfl
                refine pure_ (i := 9) (N := some 26) (v := ?_) (a' := ?_) #[true, true, true, true, true, true, true, true, true, true] rfl rfl (any_of HT_.out (by kernel_rfl)) (fun _ _ _ h => h) (Or.inl ⟨by rfl, ?_⟩) ?_ ?_
                rotate_left
                · intro w'
                  go_simp
                  with_reducible rfl
                rotate_left
                · simp only [Act.put, List.setIfInBounds_toArray, List.set_cons_zero, List.set_cons_succ, i64_w, i32_w]
                  rfl
                refine done_ (done_of HT_.out (by kernel_rfl)) ?_
                try go_wp2
                go_ret
                exact ⟨by first | rfl | (simp [errW_none, errW_some] <;> rfl) | (simp [*, errW_none, errW_some] <;> rfl), by repeat (first | (with_reducible first | exact HB.out | apply below_alloc | apply pw_below_drewN | apply below_drew1) | exact HB.out)⟩
            · rw [if_neg c6] at H
              exact absurd H (by simp)
          · rw [if_neg c5] at H
            exact absurd H (by simp)
        · rw [if_neg c4] at H
          have c4b0 : decide (x5_1 < (l0.length : Int)) = false := decide_eq_false c4
          clear c4
          obtain rfl := Option.some.inj H
          go_wp2
          go_ret
          exact ⟨by first | rfl | (simp [errW_none, errW_some] <;> rfl) | (simp [*, errW_none, errW_some] <;> rfl), by repeat (first | (with_reducible first | exact HB.out | apply below_alloc | apply pw_below_drewN | apply below_drew1) | exact HB.out)⟩
  · rw [if_neg c3] at H
    have c3b0 : ((l0.length : Int) == (l1.length : Int)) = false := beq_eq_false_iff_ne.mpr c3
    have c3b1 : ((l0.length : Int) != (l1.length : Int)) = true := bne_iff_ne.mpr c3
    have c3b2 : (l0.length == l1.length) = false := by first | simpa using c3 | (simp at c3 ⊢; omega)
    obtain rfl := Option.some.inj H
    go_enter Try.func28, Try.ntmps28
    go_wp2
    go_ret
    exact ⟨by first | rfl | (simp [errW_none, errW_some] <;> rfl) | (simp [*, errW_none, errW_some] <;> rfl), by repeat (first | (with_reducible first | exact HB.out | apply below_alloc | apply pw_below_drewN | apply below_drew1) | exact HB.out)⟩
end Go.Proofs.Ytmheflciiodhdaa.P
