/- The walk of the law WindowHolds: it returns true, for any windows and any time. Conditions: none. -/
import Derived.Test.YtgpmceimhfkncaaC0
namespace Go.Proofs.Ytgpmceimhfkncaa
open Go.RowKit
set_option linter.unusedVariables false
set_option linter.unusedSimpArgs false

/-- What each window of a time is. -/
structure WinAt (K S L t : Int) (l : List (Int × Int)) (k : Nat) (F : Int) : Prop where
  at_ : l.getD k (0, 0) = (F, F + S)
  lo : F ≤ t
  hi : t < F + S
  prev : 0 < k → (l.getD (k - 1) (0, 0)).1 + L = F
  m2 : K = 2 → F % L = 0
  m1 : K = 1 → F % S = 0
theorem flr_mod (t b : Int) : flr t b % b = 0 := by unfold flr; exact Int.mul_emod_left _ _
theorem wins_at {K S L t : Int} (h0 : chkV K S L = 0) (t1 : -1125899906842624 ≤ t) (t2 : t ≤ 1125899906842624) (k : Nat) (hk : k < (winsL K S L t).length) : ∃ F, WinAt K S L t (winsL K S L t) k F := by
  rcases chkV_kind h0 with rfl | rfl | rfl
  · have hS : plainB S L = true := by
      cases hp : plainB S L
      · simp [chkV, hp] at h0
      · rfl
    obtain ⟨g1, g2, g3⟩ := plainB_bd hS
    have hf := flr_le t S g1
    simp [winsL] at hk ⊢
    subst hk
    exact ⟨_, rfl, hf.1, hf.2, fun h => absurd h (by omega), fun h => absurd h (by omega), fun _ => flr_mod _ _⟩
  · have hS : slidB S L = true := by
      cases hp : slidB S L
      · simp [chkV, hp] at h0
      · rfl
    obtain ⟨g1, g2, g3, g4, g5⟩ := slidB_bd hS
    have e : winsL 2 S L t = slL t S L (slN t S L) := by simp [winsL]
    rw [e] at hk ⊢
    have hkn : k < slN t S L := by simpa [slL] using hk
    have hg : ∀ j, j < slN t S L → (slL t S L (slN t S L)).getD j (0, 0) = (slF t S L j, slF t S L j + S) := by
      intro j hj
      simp [slL, List.getD_eq_getElem?_getD, List.getElem?_range hj]
    have h1 := (slF_lt t S L g3 g1 k).1 hkn
    have h2 := flr_le (t - S) L g3
    have hkl : 0 ≤ (k : Int) * L := Int.mul_nonneg (by omega) (by omega)
    refine ⟨slF t S L k, hg k hkn, h1, by unfold slF; omega, fun hp => ?_, fun _ => ?_, fun h => absurd h (by omega)⟩
    · rw [hg (k - 1) (by omega)]
      have := slF_succ t S L (k - 1)
      rw [show k - 1 + 1 = k by omega] at this
      exact this.symm
    · have : slF t S L k = ((t - S) / L + 1 + k) * L := by unfold slF flr; rw [Int.add_mul, Int.add_mul, Int.one_mul]
      rw [this]
      exact Int.mul_emod_left _ _
  · have hS : plainB S L = true := by
      cases hp : plainB S L
      · simp [chkV, hp] at h0
      · rfl
    obtain ⟨g1, g2, g3⟩ := plainB_bd hS
    simp [winsL] at hk ⊢
    subst hk
    exact ⟨t, rfl, by omega, by omega, fun h => absurd h (by omega), fun h => absurd h (by omega), fun h => absurd h (by omega)⟩

theorem flr_unique' (t b x q : Int) (hb : 1 ≤ b) (hx : x = q * b) (h1 : x ≤ t) (h2 : t < x + b) : flr t b = x := by
  have hf := flr_le t b hb
  unfold flr at *
  subst hx
  have : t / b = q := by
    rcases Int.lt_trichotomy (t / b) q with h | h | h
    · have := Int.mul_le_mul_of_nonneg_right (show t / b + 1 ≤ q by omega) (show 0 ≤ b by omega)
      rw [Int.add_mul] at this
      omega
    · exact h
    · have := Int.mul_le_mul_of_nonneg_right (show q + 1 ≤ t / b by omega) (show 0 ≤ b by omega)
      rw [Int.add_mul] at this
      omega
  rw [this]

theorem slN_two (t S L : Int) (hL : 1 ≤ L) (hS : 1 ≤ S) : (slN t S L : Int) = S / L ∨ (slN t S L : Int) = (S + L - 1) / L := by
  have hl := slF_lt t S L hL hS
  have h0 := flr_le (t - S) L hL
  have e : ∀ k : Nat, slF t S L k = slF t S L 0 + k * L := fun k => by simp [slF]
  have z : slF t S L 0 = flr (t - S) L + L := by simp [slF]
  have h2 : ¬ slF t S L (slN t S L) ≤ t := fun h => by have := (hl _).2 h; omega
  rw [e] at h2
  have h3 : ((slN t S L : Int) - 1) * L ≤ t - slF t S L 0 := by
    cases hn : slN t S L with
    | zero => rw [Int.sub_mul]; simp; omega
    | succ n =>
      have h2 := (hl n).1 (by omega)
      rw [e] at h2
      rw [show ((n + 1 : Nat) : Int) - 1 = (n : Int) by omega]
      omega
  rw [Int.sub_mul] at h3
  generalize (slN t S L : Int) = n at *
  by_cases h : n * L ≤ S
  · left
    have : flr S L = n * L := flr_unique' S L _ n hL rfl h (by omega)
    unfold flr at this
    exact (Int.eq_of_mul_eq_mul_right (by omega) this).symm
  · right
    have : flr (S + L - 1) L = n * L := flr_unique' (S + L - 1) L _ n hL rfl (by omega) (by omega)
    unfold flr at this
    exact (Int.eq_of_mul_eq_mul_right (by omega) this).symm
end Go.Proofs.Ytgpmceimhfkncaa
