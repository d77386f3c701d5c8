/- The reference: the check of windows. Conditions: as each theorem states them. -/
import Derived.Test.YtfojblbnhapedaaGreatDoorL0
namespace Go.Proofs.YtfojblbnhapedaaGreatDoor
open Go.RowKit Go.Maps
set_option linter.unusedVariables false
set_option linter.unusedSimpArgs false

theorem chkV_low {K S L : Int} (h : S < 1 ∨ 1099511627776 < S) : chkV K S L = 2 := by
  have e : spanB S = false := by
    unfold spanB
    rcases h with h | h
    · rw [decide_eq_false (by omega)]; rfl
    · rw [decide_eq_false (show ¬ S ≤ 1099511627776 by omega), Bool.and_false]
  unfold chkV plainB slidB
  rw [e]
  simp
theorem chkV_two {S L : Int} (h1 : ¬ S < 1) (h2 : ¬ 1099511627776 < S) : chkV 2 S L = if L < 1 ∨ 1099511627776 < L ∨ 8 * L < S then 2 else 0 := by
  unfold chkV slidB spanB
  rw [if_neg (by omega), if_pos rfl, decide_eq_true (show 1 ≤ S by omega), decide_eq_true (show S ≤ 1099511627776 by omega)]
  by_cases a : L < 1
  · rw [if_pos (.inl a), decide_eq_false (show ¬ 1 ≤ L by omega)]; rfl
  by_cases b : 1099511627776 < L
  · rw [if_pos (.inr (.inl b)), decide_eq_false (show ¬ L ≤ 1099511627776 by omega)]; simp
  by_cases c : 8 * L < S
  · rw [if_pos (.inr (.inr c)), decide_eq_false (show ¬ S ≤ 8 * L by omega)]; simp
  · rw [if_neg (by omega), decide_eq_true (show 1 ≤ L by omega), decide_eq_true (show L ≤ 1099511627776 by omega), decide_eq_true (show S ≤ 8 * L by omega)]; rfl
theorem chkV_else {K S L : Int} (h1 : ¬ S < 1) (h2 : ¬ 1099511627776 < S) (hk : K ≠ 2) : chkV K S L = if (K = 1 ∨ K = 3) ∧ L = 0 then 0 else 2 := by
  unfold chkV plainB spanB
  rw [decide_eq_true (show 1 ≤ S by omega), decide_eq_true (show S ≤ 1099511627776 by omega)]
  by_cases a : K = 1 ∨ K = 3
  · rw [if_pos a]
    by_cases b : L = 0
    · rw [if_pos ⟨a, b⟩, decide_eq_true b]; rfl
    · rw [if_neg (fun h => b h.2), decide_eq_false b]; rfl
  · rw [if_neg a, if_neg hk, if_neg (fun h => a h.1)]
set_option maxRecDepth 100000 in
set_option maxHeartbeats 4000000 in
theorem rcheck_any (K S L : Int) (w : World) :
    Calls Tryz.prog 60 #[.agg #[.int .i64 K, .int .i64 S, .int .i64 L]] w fun e w' => e = .returned (.int .i64 (chkV K S L)) ∧ Below w.heap.size w w' := by
  obtain ⟨R, hR⟩ : ∃ R, chkV K S L = R := ⟨_, rfl⟩
  rw [hR]
  have HB := Lib.hid (bl_alloc (Below.refl w.heap.size w) (Obj.cells #[.int .i64 K, .int .i64 S, .int .i64 L] 46))
  by_cases h1 : S < 1
  · rw [chkV_low (.inl h1)] at hR
    subst hR
    go_enter Tryz.func60, Tryz.ntmps60
    go_wp2_with (fail)
    go_ret
    exact ⟨rfl, HB.out⟩
  by_cases h2 : 1099511627776 < S
  · rw [chkV_low (.inr h2)] at hR
    subst hR
    go_enter Tryz.func60, Tryz.ntmps60
    go_wp2_with (fail)
    go_ret
    exact ⟨rfl, HB.out⟩
  by_cases h3 : K = 2
  · subst h3
    rw [chkV_two h1 h2] at hR
    by_cases a : L < 1
    · rw [if_pos (.inl a)] at hR
      subst hR
      go_enter Tryz.func60, Tryz.ntmps60
      go_wp2_with (fail)
      go_ret
      exact ⟨rfl, HB.out⟩
    by_cases b : 1099511627776 < L
    · rw [if_pos (.inr (.inl b))] at hR
      subst hR
      go_enter Tryz.func60, Tryz.ntmps60
      go_wp2_with (fail)
      go_ret
      exact ⟨rfl, HB.out⟩
    have e8 : wrap64 (8 * L) = 8 * L := by unfold wrap64; omega
    by_cases c : 8 * L < S
    · rw [if_pos (.inr (.inr c))] at hR
      subst hR
      go_enter Tryz.func60, Tryz.ntmps60
      go_wp2_with (fail)
      all_goals first | (exfalso; omega) | (go_ret; exact ⟨rfl, HB.out⟩)
    · rw [if_neg (by omega)] at hR
      subst hR
      go_enter Tryz.func60, Tryz.ntmps60
      go_wp2_with (fail)
      all_goals first | (exfalso; omega) | (go_ret; exact ⟨rfl, HB.out⟩)
  · rw [chkV_else h1 h2 h3] at hR
    by_cases a : K = 1
    · subst a
      by_cases b : L = 0
      · subst b
        rw [if_pos (by omega)] at hR
        subst hR
        go_enter Tryz.func60, Tryz.ntmps60
        go_wp2_with (fail)
        go_ret
        exact ⟨rfl, HB.out⟩
      · rw [if_neg (by omega)] at hR
        subst hR
        go_enter Tryz.func60, Tryz.ntmps60
        go_wp2_with (fail)
        go_ret
        exact ⟨rfl, HB.out⟩
    by_cases a3 : K = 3
    · subst a3
      by_cases b : L = 0
      · subst b
        rw [if_pos (by omega)] at hR
        subst hR
        go_enter Tryz.func60, Tryz.ntmps60
        go_wp2_with (fail)
        go_ret
        exact ⟨rfl, HB.out⟩
      · rw [if_neg (by omega)] at hR
        subst hR
        go_enter Tryz.func60, Tryz.ntmps60
        go_wp2_with (fail)
        go_ret
        exact ⟨rfl, HB.out⟩
    rw [if_neg (by omega)] at hR
    subst hR
    go_enter Tryz.func60, Tryz.ntmps60
    go_wp2_with (fail)
    go_ret
    exact ⟨rfl, HB.out⟩
end Go.Proofs.YtfojblbnhapedaaGreatDoor
