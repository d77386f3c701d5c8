/- The walk of the law TimersPlays, whole. Conditions: as each theorem states them. -/
import Derived.Test.YtlmnnbmihimedaaV6
namespace Go.Proofs.Ytlmnnbmihimedaa
open Go.RowKit Go.Maps
set_option linter.unusedVariables false
set_option linter.unusedSimpArgs false

theorem plays_walk (A : Option Addr) (c : Nat) (l : List Pl) (W : World) (o : RdP W A l ∧ l.length ≤ c ∧ l.length ≤ maxLen) :
    Calls Try.prog 7 #[.slice A l.length c] W fun e w' => e = .returned (.bool true) ∧ Below W.heap.size W w' := by
  by_cases hn : l.length ≤ 200
  · exact plays_small A l.length c l W rfl o.1 hn
  · obtain ⟨n, hl⟩ : ∃ n, l.length = n := ⟨_, rfl⟩
    rw [hl] at hn ⊢
    have hni : (200 : Int) < (n : Int) := by omega
    clear o hl
    go_enter Try.func7, Try.ntmps7
    go_wp2_with (fail)
    refine (awake_any _).mono ?_
    rintro e w1 ⟨rfl, hb1⟩
    go_wp2_with (fail)
    go_ret
    exact ⟨rfl, hb1⟩
end Go.Proofs.Ytlmnnbmihimedaa
