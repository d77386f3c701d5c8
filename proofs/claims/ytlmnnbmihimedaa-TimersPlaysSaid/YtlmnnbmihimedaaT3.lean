/- The walk of the law TimersDue, whatever the list. Conditions: as the theorem states them. -/
import Derived.Test.YtlmnnbmihimedaaT2
namespace Go.Proofs.Ytlmnnbmihimedaa
open Go.RowKit Go.Maps
set_option linter.unusedVariables false
set_option linter.unusedSimpArgs false

set_option maxHeartbeats 1000000 in
theorem due_walk (A : Option Addr) (c : Nat) (l : List Tm) (upto : Int) (W : World) (o : RdT W W.heap.size A l ∧ l.length ≤ c ∧ l.length ≤ maxLen) (hw : (Lit.int .i64 upto).wf = true) :
    Calls Try.prog 6 #[.slice A l.length c, .int .i64 upto] W fun e w' => e = .returned (.bool true) ∧ Below W.heap.size W w' := by
  by_cases hn : l.length ≤ 200
  · exact tdue_small A l.length c l upto W rfl o.1 hn
  · obtain ⟨n, hl⟩ : ∃ n, l.length = n := ⟨_, rfl⟩
    rw [hl] at hn ⊢
    have hni : (200 : Int) < (n : Int) := by omega
    clear o hl
    go_enter Try.func6, Try.ntmps6
    go_wp2_with (fail)
    refine (awake_any _).mono ?_
    rintro e w1 ⟨rfl, hb1⟩
    go_wp2_with (fail)
    go_ret
    exact ⟨rfl, hb1⟩
end Go.Proofs.Ytlmnnbmihimedaa
