/- Contracts of ready and named. Conditions: as each theorem states them. -/
import Derived.Test.YtjgiohlkpenipaaA1
import Derived.Lib.Strings
namespace Go.Proofs.Ytjgiohlkpenipaa
open Go.RowKit Go.Maps
set_option linter.unusedVariables false
set_option linter.unusedSimpArgs false

theorem eqm_none (w : World) : (binOp .eql 57 (.map none) (.map none)).run Try.prog w = .ok (.bool true) w := by kernel_rfl
theorem eqm_some (m : Nat) (w : World) : (binOp .eql 57 (.map (some m)) (.map none)).run Try.prog w = .ok (.bool false) w := by kernel_rfl
def dP (L : Lay) : Value := .pointer (some ⟨L.d, 0, none⟩)
set_option maxRecDepth 100000 in
theorem ready_any (L : Lay) (s : DS) (w : World) (h : DAt w L s) : Calls Try.prog 42 #[dP L] w fun e w' => e = .returned (.int .i64 (if s.down then 9 else 0)) ∧ w = w' := by
  unfold dP
  obtain ⟨_, _, _, h3, h4, _⟩ := h.c
  have hl := h.lt
  have heq := eqm_some L.md w
  clear h
  generalize s.down = b at *
  go_enter Try.func42, Try.ntmps42
  cases b with
  | true =>
    go_wp2_with (fail)
    go_ret
    exact ⟨rfl, rfl⟩
  | false =>
    go_wp2_with (fail)
    go_ret
    exact ⟨rfl, rfl⟩
/-- Letters of names. -/
def okc (c : Nat) : Prop := (97 ≤ c ∧ c ≤ 122) ∨ (48 ≤ c ∧ c ≤ 57) ∨ c = 45 ∨ c = 46
instance (c : Nat) : Decidable (okc c) := by unfold okc; infer_instance
def bAt (n : ByteArray) (i : Nat) : Nat := (n.data.getD i 0).toNat
/-- May a text be a name? -/
def named (n : ByteArray) : Prop := 1 ≤ n.size ∧ n.size ≤ 32 ∧ ∀ i, i < n.size → okc (bAt n i)
instance (n : ByteArray) : Decidable (named n) := by unfold named; infer_instance
set_option maxRecDepth 100000 in
set_option maxHeartbeats 4000000 in
theorem named_any (n : ByteArray) (w : World) : Calls Try.prog 29 #[.string n] w fun e w' => e = .returned (.bool (decide (named n))) ∧ w = w' := by
  obtain ⟨m, hm⟩ : ∃ m, n.size = m := ⟨_, rfl⟩
  go_enter Try.func29, Try.ntmps29
  by_cases h1 : m < 1
  · have h1i : (m : Int) < 1 := by omega
    have hN : decide (named n) = false := decide_eq_false (fun h => by have := h.1; omega)
    rw [hN]
    go_wp2_with (fail)
    go_ret
    exact ⟨rfl, rfl⟩
  · have h1i : (1 : Int) ≤ (m : Int) := by omega
    by_cases h2 : 32 < m
    · have h2i : (32 : Int) < (m : Int) := by omega
      have hN : decide (named n) = false := decide_eq_false (fun h => by have := h.2.1; omega)
      rw [hN]
      go_wp2_with (fail)
      go_ret
      exact ⟨rfl, rfl⟩
    · have h2i : (m : Int) ≤ 32 := by omega
      go_wp2_with (fail)
      go_loopw [15] (fun vi wr => ∃ i : Nat, i ≤ m ∧ vi = .int .i64 i ∧ (∀ j, j < i → okc (bAt n j)) ∧ wr = w) (fun i _ => m - (intOf i).toNat)
      case atStart => exact ⟨0, Nat.zero_le _, rfl, fun j hj => by omega, rfl⟩
      case round =>
        obtain ⟨i, him, rfl, hok, rfl⟩ := hrel
        by_cases hi : i < m
        · have hi0 : (0 : Int) ≤ (i : Int) := by omega
          have hi1 : (i : Int) < (m : Int) := by omega
          have hbA : bAt n i = n[i].toNat := by
            unfold bAt
            rw [Array.getD_eq_getD_getElem?, Array.getElem?_eq_getElem (by simpa using (show i < n.size by omega))]
            rfl
          go_wp2_with (fail)
          all_goals (
            generalize n[i].toNat = c at *
            first
            | (refine ⟨⟨i + 1, by omega, by first | rfl | (push_cast; rfl), fun j hj => ?_, trivial⟩, by simp [intOf]; omega⟩
               rcases Nat.lt_or_ge j i with h | h
               · exact hok j h
               · obtain rfl : j = i := by omega
                 rw [hbA]
                 unfold okc
                 simp at *
                 omega)
            | (have hN : decide (named n) = false := decide_eq_false (fun h => by
                 have h := h.2.2 i (by omega)
                 rw [hbA] at h
                 unfold okc at h
                 simp at *
                 omega)
               rw [hN]
               go_ret
               exact ⟨rfl, rfl⟩))
        · have hi1 : ¬ (i : Int) < (m : Int) := by omega
          have hN : decide (named n) = true := decide_eq_true ⟨by omega, by omega, fun j hj => hok j (by omega)⟩
          go_wp2_with (fail)
          try rw [hN]
          go_ret
          exact ⟨rfl, rfl⟩
end Go.Proofs.Ytjgiohlkpenipaa
