/- The reference: is a text a name; the check of windows. Conditions: as each theorem states them. -/
import Derived.Test.YtfojblbnhapedaaGreatDoorB2
import Derived.Test.YtfojblbnhapedaaGreatDoorA2
namespace Go.Proofs.YtfojblbnhapedaaGreatDoor
open Go.RowKit Go.Maps
set_option linter.unusedVariables false
set_option linter.unusedSimpArgs false

set_option maxRecDepth 100000 in
set_option maxHeartbeats 4000000 in
theorem rnamed_any (n : ByteArray) (w : World) (hz : okN n) : Calls Tryz.prog 59 #[.string n] w fun e w' => e = .returned (.bool (decide (jnamed n))) ∧ w = w' := by
  obtain ⟨m, hm⟩ : ∃ m, n.size = m := ⟨_, rfl⟩
  have hmz : m ≤ 9223372036854775807 := by unfold okN at hz; omega
  by_cases h1 : m < 1
  · have h1i : (m : Int) < 1 := by omega
    have hN : Hid (decide (jnamed n) = false) := Lib.hid (decide_eq_false (fun h => by have := h.1; omega))
    go_enter Tryz.func59, Tryz.ntmps59
    go_wp2_with (fail)
    go_ret
    rw [hN.out]
    exact ⟨rfl, rfl⟩
  have h1i : ¬ (m : Int) < 1 := by omega
  by_cases h2 : 16 < m
  · have h2i : (16 : Int) < (m : Int) := by omega
    have hN : Hid (decide (jnamed n) = false) := Lib.hid (decide_eq_false (fun h => by have := h.2.1; omega))
    go_enter Tryz.func59, Tryz.ntmps59
    go_wp2_with (fail)
    go_ret
    rw [hN.out]
    exact ⟨rfl, rfl⟩
  have h2i : ¬ (16 : Int) < (m : Int) := by omega
  go_enter Tryz.func59, Tryz.ntmps59
  go_wp2_with (fail)
  go_loopw [3] (fun vi wr => ∃ i : Nat, i ≤ m ∧ vi = .int .i64 i ∧ (∀ j, j < i → jokc j (bAt n j)) ∧ wr = w) (fun i _ => m - (intOf i).toNat)
  case atStart => exact ⟨0, Nat.zero_le _, rfl, fun j hj => by omega, rfl⟩
  case round =>
    obtain ⟨i, him, rfl, hok, rfl⟩ := hrel
    by_cases hi : i < m
    · have hi0 : (0 : Int) ≤ (i : Int) := by omega
      have hi1 : (i : Int) < (m : Int) := by omega
      have HOK := Lib.hid hok
      clear hok
      by_cases hz0 : i = 0
      · subst hz0
        have e00 : ((0 : Nat) : Int) = 0 := rfl
        rw [e00] at hi0 hi1
        rw [e00]
        clear e00
        have hbA := bAt_get (n := n) (i := 0) (by omega)
        go_wp2_with (fail)
        all_goals (
          generalize n[0].toNat = c at *
          first
          | (refine ⟨⟨0 + 1, by omega, by first | rfl | (push_cast; rfl), fun j hj => ?_, by first | rfl | trivial⟩, by simp [intOf]; omega⟩
             rcases Nat.lt_or_ge j 0 with h | h
             · exact HOK.out j h
             · have ej : j = 0 := by omega
               rw [ej, hbA]
               unfold jokc
               simp at *
               omega)
          | (have hN : decide (jnamed n) = false := decide_eq_false (fun h => by
               have h := h.2.2 0 (by omega)
               rw [hbA] at h
               unfold jokc at h
               simp at *
               omega)
             rw [hN]
             go_ret
             exact ⟨rfl, rfl⟩))
      · have hzi : ¬ (i : Int) = 0 := by omega
        have hbA := bAt_get (n := n) (i := i) (by omega)
        go_wp2_with (fail)
        all_goals (
          generalize n[i].toNat = c at *
          first
          | (refine ⟨⟨i + 1, by omega, by first | rfl | (push_cast; rfl), fun j hj => ?_, by first | rfl | trivial⟩, by simp [intOf]; omega⟩
             rcases Nat.lt_or_ge j i with h | h
             · exact HOK.out j h
             · have ej : j = i := by omega
               rw [ej, hbA]
               unfold jokc
               simp at *
               omega)
          | (have hN : decide (jnamed n) = false := decide_eq_false (fun h => by
               have h := h.2.2 i (by omega)
               rw [hbA] at h
               unfold jokc at h
               simp at *
               omega)
             rw [hN]
             go_ret
             exact ⟨rfl, rfl⟩))
    · have hi1 : ¬ (i : Int) < (m : Int) := by omega
      have hall : Hid (∀ j, j < m → jokc j (bAt n j)) := Lib.hid (fun j hj => hok j (by omega))
      clear hok
      have hN : decide (jnamed n) = true := decide_eq_true ⟨by omega, by omega, fun j hj => hall.out j (by omega)⟩
      go_wp2_with (fail)
      go_ret
      try rw [hN]
      exact ⟨rfl, rfl⟩
end Go.Proofs.YtfojblbnhapedaaGreatDoor
