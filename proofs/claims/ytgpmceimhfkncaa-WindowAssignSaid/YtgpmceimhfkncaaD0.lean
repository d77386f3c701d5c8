/- The printed answers of the reference's Check and Assign are those of the program's Assign, in plain numbers and lists. Conditions: as each theorem states them. -/
import Derived.Test.YtgpmceimhfkncaaB3
import Derived.Test.YtgpmceimhfkncaaPWindowAssignx2
import Derived.Test.YtgpmceimhfkncaaPWindowAssignx3
namespace Go.Proofs.Ytgpmceimhfkncaa.WA
open Go.RowKit Go.Proofs.Ytgpmceimhfkncaa Go.Proofs.Ytgpmceimhfkncaa.PWindowAssign Go.Proofs.YtgpmceimhfkncaaW.PrintWords Go.Proofs.YtgpmceimhfkncaaW.PrintLast
set_option linter.unusedVariables false
set_option linter.unusedSimpArgs false

def toS (p : Int × Int) : S33 := ⟨p.1, p.2⟩
theorem C_of_RdW {w : World} {B : Nat} {A : Option Addr} {l : List (Int × Int)} (h : RdW w B A l) : Kd.C k33 w A (l.map toS).length (l.map toS) := by
  refine ⟨rfl, by rw [List.length_map]; exact h.1, fun hn => ?_⟩
  rw [List.length_map] at hn
  obtain ⟨b, off, rfl, _, hc⟩ := h.2 hn
  refine ⟨_, rfl, fun j p hp => ⟨[.int .i64 p.f0, .int .i64 p.f1], rfl, k33_mk w p, fun i u hu => ?_⟩⟩
  rw [List.getElem?_map, Option.map_eq_some_iff] at hp
  obtain ⟨q, hq, rfl⟩ := hp
  have hj : j < l.length := (List.getElem?_eq_some_iff.1 hq).1
  have hg : l.getD j (0, 0) = q := by rw [List.getD_eq_getElem?_getD, hq]; rfl
  have hcj := hc j hj
  rw [hg] at hcj
  have hs : k33.sz = 2 := rfl
  rw [hs, Addr.add_lit]
  match i, hu with
  | 0, hu => simp at hu; rw [← hu]; exact hcj.1
  | 1, hu => simp at hu; rw [← hu, ← Nat.add_assoc]; exact hcj.2

theorem check_ref (K S L : Int) : freshetref21_Check.f 2 K S L = some (chkV K S L) := by
  have hw : 1 ≤ L → L ≤ 1099511627776 → wrap64 (8 * L) = 8 * L := by intro h1 h2; unfold wrap64; omega
  unfold freshetref21_Check.f chkV plainB slidB spanB
  simp only [freshetref21_Check.j0, freshetref21_Check.j1]
  by_cases hS1 : S < 1
  · have : ¬ 1 ≤ S := by omega
    simp [hS1, this]
  by_cases hS2 : 1099511627776 < S
  · have : ¬ S ≤ 1099511627776 := by omega
    simp [hS1, hS2, this]
  have h1 : 1 ≤ S := by omega
  have h2 : S ≤ 1099511627776 := by omega
  by_cases hK2 : K = 2
  · subst hK2
    by_cases hL1 : L < 1
    · have : ¬ 1 ≤ L := by omega
      simp [hS1, hS2, h1, h2, hL1, this]
    by_cases hL2 : 1099511627776 < L
    · have : ¬ L ≤ 1099511627776 := by omega
      simp [hS1, hS2, h1, h2, hL1, hL2, this]
    have g1 : 1 ≤ L := by omega
    have g2 : L ≤ 1099511627776 := by omega
    simp [hS1, hS2, h1, h2, hL1, hL2, g1, g2, hw g1 g2]
    by_cases h8 : S ≤ 8 * L
    · have : ¬ 8 * L < S := by omega
      simp [h8, this]
    · have : 8 * L < S := by omega
      simp [h8, this]
  · by_cases hK1 : K = 1
    · subst hK1
      by_cases hL : L = 0 <;> simp [hS1, hS2, h1, h2, hL]
    · by_cases hK3 : K = 3
      · subst hK3
        by_cases hL : L = 0 <;> simp [hS1, hS2, h1, h2, hL]
      · simp [hS1, hS2, hK1, hK2, hK3]

theorem below_ref (t b : Int) (hb : 1 ≤ b) (hb2 : b ≤ 1099511627776) (h1 : -1125899906842624 ≤ t) (h2 : t ≤ 1125899906842624) : freshetref21_Below.f t b = some (flr t b) := by
  have hd := tdiv_floor t b hb
  have hf := flr_le t b hb
  have hm := Int.mul_tdiv_add_tmod t b
  unfold freshetref21_Below.f
  rw [if_neg (by omega)]
  have e : flr t b = b * (t / b) := by unfold flr; rw [Int.mul_comm]
  by_cases h : t.tmod b < 0
  · rw [if_pos h] at hd ⊢
    have : flr t b = t - (t.tmod b + b) := by rw [e, hd, Int.mul_sub]; omega
    congr 1
    rw [show wrap64 (t.tmod b + b) = t.tmod b + b by unfold wrap64; omega]
    unfold wrap64
    omega
  · rw [if_neg h] at hd ⊢
    have : flr t b = t - t.tmod b := by rw [e, hd]; omega
    congr 1
    unfold wrap64
    omega

theorem loop_ref (t S L K L0 : Int) (f0 : Int) (h1 : 1 ≤ S) (h2 : S ≤ 1099511627776) (g1 : 1 ≤ L) (g2 : L ≤ 1099511627776) (t1 : -1125899906842624 ≤ t) (t2 : t ≤ 1125899906842624) (e1 : t - S < f0) (e2 : f0 - L ≤ t - S) (d : Nat) :
    ∀ (k : Nat) (acc : List S33), d < k → d + acc.length ≤ 1000 → f0 + ((d : Int) - 1) * L ≤ t → freshetref21_Assign.l0 k t L acc (f0 + ((d : Int) - 1) * L) K S L0 = some ((List.range d).map (fun (i : Nat) => toS (f0 + (i : Int) * L, f0 + (i : Int) * L + S)) ++ acc, 0) := by
  induction d with
  | zero =>
    intro k acc hk hl ht
    obtain ⟨k, rfl⟩ : ∃ m, k = m + 1 := ⟨k - 1, by omega⟩
    simp only [freshetref21_Assign.l0]
    rw [if_neg (by rw [show wrap64 (t - S) = t - S by unfold wrap64; omega]; simp; omega)]
    simp
  | succ d ih =>
    intro k acc hk hl ht
    obtain ⟨k, rfl⟩ : ∃ m, k = m + 1 := ⟨k - 1, by omega⟩
    have hd : f0 + (((d + 1 : Nat) : Int) - 1) * L = f0 + (d : Int) * L := by rw [show ((d + 1 : Nat) : Int) - 1 = (d : Int) by omega]
    have hdl : 0 ≤ (d : Int) * L := Int.mul_nonneg (by omega) (by omega)
    rw [hd] at ht ⊢
    have hs : (((d : Int) - 1) * L) = (d : Int) * L - L := by rw [Int.sub_mul, Int.one_mul]
    simp only [freshetref21_Assign.l0]
    rw [if_pos (by rw [show wrap64 (t - S) = t - S by unfold wrap64; omega]; omega)]
    simp only [Option.bind_some, List.length_cons, List.length_nil]
    rw [if_pos (by omega), show wrap64 (f0 + (d : Int) * L - L) = f0 + ((d : Int) - 1) * L by rw [hs]; unfold wrap64; omega,
      ih k _ (by omega) (by simp at hl ⊢; omega) (by rw [hs]; omega)]
    rw [show wrap64 (f0 + (d : Int) * L + S) = f0 + (d : Int) * L + S by unfold wrap64; omega]
    simp [List.range_succ, toS]

theorem flr_unique (t b x q : Int) (hb : 1 ≤ b) (hx : x = q * b) (h1 : x ≤ t) (h2 : t < x + b) : flr t b = x := by
  have hf := flr_le t b hb
  unfold flr at *
  subst hx
  have : t / b = q := by
    rcases Int.lt_trichotomy (t / b) q with h | h | h
    · have := Int.mul_le_mul_of_nonneg_right (show t / b + 1 ≤ q by omega) (show 0 ≤ b by omega)
      rw [Int.add_mul] at this
      omega
    · exact h
    · have := Int.mul_le_mul_of_nonneg_right (show q + 1 ≤ t / b by omega) (show 0 ≤ b by omega)
      rw [Int.add_mul] at this
      omega
  rw [this]

theorem slF_top (t S L : Int) (h1 : 1 ≤ S) (g1 : 1 ≤ L) : flr t L = slF t S L 0 + ((slN t S L : Int) - 1) * L := by
  have hl := slF_lt t S L g1 h1
  have h0 := flr_le (t - S) L g1
  have e : ∀ k : Nat, slF t S L k = slF t S L 0 + k * L := fun k => by simp [slF]
  refine flr_unique t L _ ((t - S) / L + 1 + ((slN t S L : Int) - 1)) g1 ?_ ?_ ?_
  · simp only [slF, flr, Int.add_mul, Int.sub_mul, Int.one_mul]
    simp
  · cases hn : slN t S L with
    | zero => simp [slF]; omega
    | succ n =>
      have h2 := (hl n).1 (by omega)
      rw [e] at h2
      have : ((n + 1 : Nat) : Int) - 1 = (n : Int) := by omega
      rw [this]
      exact h2
  · have h2 : ¬ slF t S L (slN t S L) ≤ t := fun h => by have := (hl _).2 h; omega
    rw [e] at h2
    rw [Int.sub_mul]
    omega

theorem assign_ref (K S L t : Int) : freshetref21_Assign.f 30 K S L t = some ((asgV K S L t).1.map toS, (asgV K S L t).2) := by
  have hc : freshetref21_Check.f 30 K S L = some (chkV K S L) := at_rounds (g := fun k => freshetref21_Check.f k K S L) (fun k => freshetref21_Check.mono K S L k) (k := 2) (k' := 30) (by omega) (check_ref K S L)
  unfold freshetref21_Assign.f asgV
  rw [hc]
  simp only [Option.bind_some]
  rcases chkV_or K S L with h0 | h0
  · rw [if_pos h0]
    by_cases t1 : t < -1125899906842624
    · rw [if_pos t1, if_neg (by omega)]
      simp [freshetref21_Assign.j0]
    by_cases t2 : 1125899906842624 < t
    · rw [if_neg t1, if_neg (by omega)]
      simp [freshetref21_Assign.j0, t2]
    rw [if_neg t1, if_pos ⟨h0, by omega, by omega⟩]
    have e2 : decide (t > 1125899906842624) = false := by simpa using t2
    rw [e2]
    simp only [freshetref21_Assign.j0, Bool.false_eq_true, if_false]
    rcases chkV_kind h0 with rfl | rfl | rfl
    · have hS : plainB S L = true := by
        cases hp : plainB S L
        · simp [chkV, hp] at h0
        · rfl
      obtain ⟨g1, g2, g3⟩ := plainB_bd hS
      have hf := flr_le t S g1
      rw [if_neg (by omega), if_pos rfl]
      simp only [freshetref21_Assign.j1]
      rw [below_ref t S g1 g2 (by omega) (by omega)]
      simp only [Option.bind_some]
      have hl := loop_ref t S S 1 L (flr t S) g1 g2 g1 g2 (by omega) (by omega) (by omega) (by omega) 1 28 [] (by omega) (by simp) (by simp; omega)
      simp at hl
      rw [hl]
      simp [winsL, toS]
    · have hS : slidB S L = true := by
        cases hp : slidB S L
        · simp [chkV, hp] at h0
        · rfl
      obtain ⟨g1, g2, g3, g4, g5⟩ := slidB_bd hS
      rw [if_neg (by omega), if_neg (by omega)]
      simp only [freshetref21_Assign.j1]
      rw [below_ref t L g3 g4 (by omega) (by omega)]
      simp only [Option.bind_some]
      have hn := slN_le t S L g3 g1 g5
      have hf := flr_le (t - S) L g3
      have hf2 := flr_le t L g3
      rw [slF_top t S L g1 g3]
      have hl := loop_ref t S L 2 S (slF t S L 0) g1 g2 g3 g4 (by omega) (by omega) (by simp [slF]; omega) (by simp [slF]; omega) (slN t S L) 28 [] (by omega) (by simp; omega) (by rw [← slF_top t S L g1 g3]; omega)
      have e : ∀ k : Nat, slF t S L k = slF t S L 0 + k * L := fun k => by simp [slF]
      rw [loop_ref t S L 2 L (slF t S L 0) g1 g2 g3 g4 (by omega) (by omega) (by simp [slF]; omega) (by simp [slF]; omega) (slN t S L) 28 [] (by omega) (by simp; omega) (by rw [← slF_top t S L g1 g3]; omega)]
      simp [winsL, slL, ← e]
    · have hS : plainB S L = true := by
        cases hp : plainB S L
        · simp [chkV, hp] at h0
        · rfl
      obtain ⟨g1, g2, g3⟩ := plainB_bd hS
      rw [if_pos rfl, show wrap64 (t + S) = t + S by unfold wrap64; omega]
      simp [winsL, toS]
  · rw [if_neg (by omega), if_neg (by omega)]
    simp [freshetref21_Assign.j0]

theorem same_loop (l : List S33) (hn : l.length ≤ 9223372036854775807) (d : Nat) : ∀ (k : Nat) (i : Nat), i ≤ l.length → l.length - i = d → d < k → freshetref21_Same.l0 k l l (i : Int) = some true := by
  induction d with
  | zero =>
    intro k i hi hd hk
    obtain ⟨k, rfl⟩ : ∃ m, k = m + 1 := ⟨k - 1, by omega⟩
    simp only [freshetref21_Same.l0]
    rw [if_neg (by omega)]
  | succ d ih =>
    intro k i hi hd hk
    obtain ⟨k, rfl⟩ : ∃ m, k = m + 1 := ⟨k - 1, by omega⟩
    simp only [freshetref21_Same.l0]
    rw [if_pos (by omega), if_pos (by omega), if_pos (by omega), if_neg (by simp), show wrap64 ((i : Int) + 1) = ((i + 1 : Nat) : Int) by unfold wrap64; omega]
    exact ih k (i + 1) (by omega) (by omega) (by omega)
theorem same_refl (l : List S33) (hn : l.length ≤ 9223372036854775807) : freshetref21_Same.f (l.length + 1) l l = some true := by
  unfold freshetref21_Same.f
  rw [if_pos rfl]
  exact same_loop l hn l.length _ 0 (by omega) (by omega) (by omega)
end Go.Proofs.Ytgpmceimhfkncaa.WA
