/- Contracts of the comparisons that timers are ordered by. Conditions: as each theorem states them. -/
import Derived.Test.YtlmnnbmihimedaaProg
import Derived.WalkKit
import Derived.WalkLawsBesides
import Derived.WalkSpells
import Derived.Deep.QuietTactic
import Derived.BigQuiet
import Derived.Lib.Hide
import Derived.Deep.DeepFit
import Derived.Deep.DeepMust
import Derived.Laws.EntriesVeiled
import Derived.StillTailTactics
import Derived.Deep.RegionHeld3
import Derived.Deep.RegionWith
namespace Go.Proofs.Ytlmnnbmihimedaa
open Go.RowKit
set_option linter.unusedVariables false
set_option linter.unusedSimpArgs false

theorem bl_alloc {w W : World} (h : Below w.heap.size w W) (o : Obj) : Below w.heap.size w (W.alloc o) := h.alloc h.size o
theorem bl_then {w W W' : World} (h : Below w.heap.size w W) (k : Below W.heap.size W W') : Below w.heap.size w W' := h.trans (k.mono h.size)
theorem bl_drewN {B : Nat} {a w : World} (h : Below B a w) (n : Nat) : Below B a (w.drewN n) := ⟨h.os, h.tape, h.output, h.size, h.block⟩
theorem ret_int {k : IntKind} {a b : Int} (h : a = b) : Ending.returned (.int k a) = .returned (.int k b) := by rw [h]
theorem ret_bool {a b : Bool} (h : a = b) : Ending.returned (.bool a) = .returned (.bool b) := by rw [h]

theorem nan_int (a : Int) (w : World) : Calls Try.prog 38 #[.int .i64 a] w fun e w' => e = .returned (.bool false) ∧ w = w' := by
  go_enter Try.func38, Try.ntmps38
  go_wp2
  go_ret
  exact ⟨rfl, rfl⟩
theorem nan_str (a : ByteArray) (w : World) : Calls Try.prog 39 #[.string a] w fun e w' => e = .returned (.bool false) ∧ w = w' := by
  go_enter Try.func39, Try.ntmps39
  go_wp2
  go_ret
  exact ⟨rfl, rfl⟩
def cmpI (a b : Int) : Int := if a < b then -1 else if b < a then 1 else 0
def lessS (a b : ByteArray) : Bool := Op.bytesLess a.toList b.toList
def cmpS (a b : ByteArray) : Int := if lessS a b then -1 else if a.toList == b.toList then 0 else 1
set_option maxHeartbeats 1000000 in
theorem compare_int (a b : Int) (w : World) : Calls Try.prog 29 #[.int .i64 a, .int .i64 b] w fun e w' => e = .returned (.int .i64 (cmpI a b)) ∧ w = w' := by
  unfold cmpI
  go_enter Try.func29, Try.ntmps29
  go_wp2_with (fail)
  refine (nan_int a w).mono ?_
  rintro e w1 ⟨rfl, rfl⟩
  go_wp2_with (fail)
  refine (nan_int b w).mono ?_
  rintro e w1 ⟨rfl, rfl⟩
  rcases Int.lt_trichotomy a b with h | h | h
  · have h2 : ¬ b < a := by omega
    go_wp2
    go_ret
    exact ⟨ret_int (by simp [h]), rfl⟩
  · subst h
    go_wp2
    go_ret
    exact ⟨ret_int (by simp), rfl⟩
  · have h2 : ¬ a < b := by omega
    go_wp2
    go_ret
    exact ⟨ret_int (by simp [h, h2]), rfl⟩
set_option maxHeartbeats 1000000 in
theorem compare_str (a b : ByteArray) (w : World) : Calls Try.prog 30 #[.string a, .string b] w fun e w' => e = .returned (.int .i64 (cmpS a b)) ∧ w = w' := by
  unfold cmpS lessS
  go_enter Try.func30, Try.ntmps30
  go_wp2_with (fail)
  refine (nan_str a w).mono ?_
  rintro e w1 ⟨rfl, rfl⟩
  go_wp2_with (fail)
  refine (nan_str b w).mono ?_
  rintro e w1 ⟨rfl, rfl⟩
  cases h1 : Op.bytesLess a.toList b.toList
  · cases h2 : (a.toList == b.toList)
    · go_wp2
      all_goals (go_ret; exact ⟨ret_int (by simp_all), rfl⟩)
    · go_wp2
      all_goals (go_ret; exact ⟨ret_int (by simp_all), rfl⟩)
  · go_wp2
    all_goals (go_ret; exact ⟨ret_int (by simp_all), rfl⟩)
/-- What cmp.Or answers of three numbers: the first that is not 0. -/
def orI (a b c : Int) : Int := if a = 0 then (if b = 0 then c else b) else a
set_option maxHeartbeats 1000000 in
theorem or_any (g : Nat) (x y z : Int) (w : World) (h0 : w.cell? ⟨g, 0, none⟩ = some (.int .i64 x)) (h1 : w.cell? ⟨g, 1, none⟩ = some (.int .i64 y)) (h2 : w.cell? ⟨g, 2, none⟩ = some (.int .i64 z)) :
    Calls Try.prog 28 #[.slice (some ⟨g, 0, none⟩) 3 3] w fun e w' => e = .returned (.int .i64 (orI x y z)) ∧ Below w.heap.size w w' := by
  unfold orI
  by_cases hx : x = 0
  · subst hx
    by_cases hy : y = 0
    · subst hy
      by_cases hz : z = 0
      · subst hz
        go_enter Try.func28, Try.ntmps28
        go_wp2_with (fail)
        refine wp_loop_rounds 4 ?_
        iterate 4
          rw [rounds_succ]
          go_wp2_with (fail)
        go_ret
        exact ⟨ret_int (by simp), by repeat first | exact Below.refl _ _ | refine Below.drew ?_⟩
      · go_enter Try.func28, Try.ntmps28
        go_wp2_with (fail)
        refine wp_loop_rounds 3 ?_
        iterate 3
          rw [rounds_succ]
          go_wp2_with (fail)
        go_ret
        exact ⟨ret_int (by simp), by repeat first | exact Below.refl _ _ | refine Below.drew ?_⟩
    · go_enter Try.func28, Try.ntmps28
      go_wp2_with (fail)
      refine wp_loop_rounds 2 ?_
      iterate 2
        rw [rounds_succ]
        go_wp2_with (fail)
      go_ret
      exact ⟨ret_int (by simp [hy]), by repeat first | exact Below.refl _ _ | refine Below.drew ?_⟩
  · go_enter Try.func28, Try.ntmps28
    go_wp2_with (fail)
    refine wp_loop_rounds 1 ?_
    rw [rounds_succ]
    go_wp2_with (fail)
    go_ret
    exact ⟨ret_int (by simp [hx]), by repeat first | exact Below.refl _ _ | refine Below.drew ?_⟩
end Go.Proofs.Ytlmnnbmihimedaa
