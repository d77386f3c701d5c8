/- The contracts of window.span, kinds, its two tests, and Check, for every input. Conditions: as each theorem states them. -/
import Derived.Test.YtgpmceimhfkncaaProg
import Derived.WalkKit
import Derived.WalkLawsBesides
import Derived.WalkSpells
import Derived.Deep.QuietTactic
import Derived.BigQuiet
import Derived.Lib.Hide
import Derived.Deep.DeepFit
import Derived.Deep.DeepMust
import Derived.Laws.EntriesVeiled
import Derived.StillTailTactics
import Derived.Deep.RegionHeld3
import Derived.Deep.RegionWith
namespace Go.Proofs.Ytgpmceimhfkncaa
open Go.RowKit
set_option linter.unusedVariables false
set_option linter.unusedSimpArgs false

theorem bl_alloc {w W : World} (h : Below w.heap.size w W) (o : Obj) : Below w.heap.size w (W.alloc o) := h.alloc h.size o
theorem bl_then {w W W' : World} (h : Below w.heap.size w W) (k : Below W.heap.size W W') : Below w.heap.size w W' := h.trans (k.mono h.size)
theorem bl_drewN {B : Nat} {a w : World} (h : Below B a w) (n : Nat) : Below B a (w.drewN n) := ⟨h.os, h.tape, h.output, h.size, h.block⟩
theorem ret_int {k : IntKind} {a b : Int} (h : a = b) : Ending.returned (.int k a) = .returned (.int k b) := by rw [h]
theorem ret_bool {a b : Bool} (h : a = b) : Ending.returned (.bool a) = .returned (.bool b) := by rw [h]

def spanB (n : Int) : Bool := decide (1 ≤ n) && decide (n ≤ 1099511627776)
theorem span_any (n : Int) (w : World) :
    Calls Try.prog 39 #[.int .i64 n] w fun e w' => e = .returned (.bool (spanB n)) ∧ w = w' := by
  unfold spanB
  go_enter Try.func39, Try.ntmps39
  go_wp2
  all_goals
    go_ret
    exact ⟨ret_bool (by rw [Bool.eq_iff_iff]; simp; try omega), rfl⟩

theorem spanB_wrap8 {L : Int} (h : spanB L = true) : wrap64 (8 * L) = 8 * L := by
  simp [spanB] at h
  unfold wrap64
  omega

theorem kinds_any (w : World) :
    Calls Try.prog 28 #[] w fun e w' => e = .returned (.agg #[.nilFunc, .nilFunc, .func (.func 38) #[] #[], .func (.func 40) #[] #[.pointer (some ⟨w.heap.size + 1, 0, none⟩)],
      .func (.func 41) #[] #[], .func (.func 42) #[] #[.pointer (some ⟨w.heap.size + 1, 0, none⟩)], .func (.func 38) #[] #[], .func (.func 43) #[] #[]]) ∧
      (w.alloc (.cells #[.nilFunc, .nilFunc, .func (.func 38) #[] #[], .func (.func 40) #[] #[.pointer (some ⟨w.heap.size + 1, 0, none⟩)],
      .func (.func 41) #[] #[], .func (.func 42) #[] #[.pointer (some ⟨w.heap.size + 1, 0, none⟩)], .func (.func 38) #[] #[], .func (.func 43) #[] #[]] 53)).alloc (.cells #[.func (.func 37) #[] #[]] 55) = w' := by
  go_enter Try.func28, Try.ntmps28
  go_wp2
  refine bodyPost_ret (v := .agg #[.nilFunc, .nilFunc, .func (.func 38) #[] #[], .func (.func 40) #[] #[.pointer (some ⟨w.heap.size + 1, 0, none⟩)],
      .func (.func 41) #[] #[], .func (.func 42) #[] #[.pointer (some ⟨w.heap.size + 1, 0, none⟩)], .func (.func 38) #[] #[], .func (.func 43) #[] #[]]) (by simp [results, Try.results28, go_sem]) rfl ⟨rfl, rfl⟩

def plainB (S L : Int) : Bool := spanB S && decide (L = 0)
def slidB (S L : Int) : Bool := spanB S && spanB L && decide (S ≤ 8 * L)

theorem plain_any (K S L : Int) (b : Bool) (hb : plainB S L = b) (w : World) :
    Calls Try.prog 38 #[.agg #[.int .i64 K, .int .i64 S, .int .i64 L]] w fun e w' => e = .returned (.bool b) ∧ Below w.heap.size w w' := by
  subst hb
  unfold plainB
  go_enter Try.func38, Try.ntmps38
  go_wp2_with (go_at_call 39; refine (span_any _ _).mono ?_; rintro e w' ⟨rfl, rfl⟩)
  all_goals
    go_ret
    exact ⟨ret_bool (by rw [Bool.eq_iff_iff]; simp [*]), (Below.refl _ _).alloc (Nat.le_refl _) _⟩

theorem slid_any (K S L : Int) (b : Bool) (hb : slidB S L = b) (w : World) :
    Calls Try.prog 41 #[.agg #[.int .i64 K, .int .i64 S, .int .i64 L]] w fun e w' => e = .returned (.bool b) ∧ Below w.heap.size w w' := by
  subst hb
  unfold slidB
  go_enter Try.func41, Try.ntmps41
  go_wp2_with (go_at_call 39; refine (span_any _ _).mono ?_; rintro e w' ⟨rfl, rfl⟩)
  all_goals
    go_ret
    exact ⟨ret_bool (by rw [Bool.eq_iff_iff]; simp [*, spanB_wrap8]), (Below.refl _ _).alloc (Nat.le_refl _) _⟩

set_option maxHeartbeats 1000000 in
theorem check_1 (S L : Int) (w : World) :
    Calls Try.prog 15 #[.agg #[.int .i64 1, .int .i64 S, .int .i64 L]] w fun e w' => e = .returned (.int .i64 (bif plainB S L then 0 else 2)) ∧ Below w.heap.size w w' := by
  cases hq : plainB S L
  all_goals
    have HQ := Lib.hid hq
    clear hq
    go_enter Try.func15, Try.ntmps15
    go_wp2_with (go_at_call 28; refine (kinds_any _).mono ?_; rintro e w' ⟨rfl, rfl⟩)
    go_region_with (go_at_call 38; refine (plain_any _ _ _ _ HQ.out _).mono ?_; rintro e w' ⟨rfl, hb⟩)
    all_goals
      go_wp2
      go_ret
      refine ⟨rfl, ?_⟩
      repeat first | exact Below.refl _ _ | refine Below.drew ?_ | refine bl_alloc ?_ _ | refine bl_then ?_ (by assumption)

set_option maxHeartbeats 1000000 in
theorem check_2 (S L : Int) (w : World) :
    Calls Try.prog 15 #[.agg #[.int .i64 2, .int .i64 S, .int .i64 L]] w fun e w' => e = .returned (.int .i64 (bif slidB S L then 0 else 2)) ∧ Below w.heap.size w w' := by
  cases hq : slidB S L
  all_goals
    have HQ := Lib.hid hq
    clear hq
    go_enter Try.func15, Try.ntmps15
    go_wp2_with (go_at_call 28; refine (kinds_any _).mono ?_; rintro e w' ⟨rfl, rfl⟩)
    go_region_with (go_at_call 41; refine (slid_any _ _ _ _ HQ.out _).mono ?_; rintro e w' ⟨rfl, hb⟩)
    all_goals
      go_wp2
      go_ret
      refine ⟨rfl, ?_⟩
      repeat first | exact Below.refl _ _ | refine Below.drew ?_ | refine bl_alloc ?_ _ | refine bl_then ?_ (by assumption)

set_option maxHeartbeats 1000000 in
theorem check_3 (S L : Int) (w : World) :
    Calls Try.prog 15 #[.agg #[.int .i64 3, .int .i64 S, .int .i64 L]] w fun e w' => e = .returned (.int .i64 (bif plainB S L then 0 else 2)) ∧ Below w.heap.size w w' := by
  cases hq : plainB S L
  all_goals
    have HQ := Lib.hid hq
    clear hq
    go_enter Try.func15, Try.ntmps15
    go_wp2_with (go_at_call 28; refine (kinds_any _).mono ?_; rintro e w' ⟨rfl, rfl⟩)
    go_region_with (go_at_call 38; refine (plain_any _ _ _ _ HQ.out _).mono ?_; rintro e w' ⟨rfl, hb⟩)
    all_goals
      go_wp2
      go_ret
      refine ⟨rfl, ?_⟩
      repeat first | exact Below.refl _ _ | refine Below.drew ?_ | refine bl_alloc ?_ _ | refine bl_then ?_ (by assumption)

theorem check_low (K S L : Int) (h : K < 1) (w : World) :
    Calls Try.prog 15 #[.agg #[.int .i64 K, .int .i64 S, .int .i64 L]] w fun e w' => e = .returned (.int .i64 2) ∧ Below w.heap.size w w' := by
  have h1 : decide (K < 1) = true := by simpa using h
  go_enter Try.func15, Try.ntmps15
  go_wp2_with (go_at_call 28; refine (kinds_any _).mono ?_; rintro e w' ⟨rfl, rfl⟩)
  go_quiet (fail)
  go_wp2
  go_ret
  refine ⟨rfl, ?_⟩
  repeat first | exact Below.refl _ _ | refine Below.drew ?_ | refine bl_drewN ?_ _ | refine bl_alloc ?_ _ | refine bl_then ?_ (by assumption)
theorem check_high (K S L : Int) (h : 4 ≤ K) (w : World) :
    Calls Try.prog 15 #[.agg #[.int .i64 K, .int .i64 S, .int .i64 L]] w fun e w' => e = .returned (.int .i64 2) ∧ Below w.heap.size w w' := by
  have h1 : decide (K < 1) = false := by simp; omega
  have h2 : decide (4 ≤ K) = true := by simpa using h
  go_enter Try.func15, Try.ntmps15
  go_wp2_with (go_at_call 28; refine (kinds_any _).mono ?_; rintro e w' ⟨rfl, rfl⟩)
  go_quiet (fail)
  go_wp2
  go_ret
  refine ⟨rfl, ?_⟩
  repeat first | exact Below.refl _ _ | refine Below.drew ?_ | refine bl_drewN ?_ _ | refine bl_alloc ?_ _ | refine bl_then ?_ (by assumption)
end Go.Proofs.Ytgpmceimhfkncaa
