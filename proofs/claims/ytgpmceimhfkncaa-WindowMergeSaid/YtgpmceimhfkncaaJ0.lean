/- The printed functions Same, Apart and Merge of the family PWindowMerge, on lists of windows as our own texts have them. Conditions: as each theorem states them. -/
import Derived.Test.YtgpmceimhfkncaaG2
import Derived.Test.YtgpmceimhfkncaaPWindowMergex5
namespace Go.Proofs.Ytgpmceimhfkncaa.WM
open Go.RowKit Go.Proofs.Ytgpmceimhfkncaa Go.Proofs.Ytgpmceimhfkncaa.PWindowMerge Go.Proofs.YtgpmceimhfkncaaW.PrintWords Go.Proofs.YtgpmceimhfkncaaW.PrintLast
set_option linter.unusedVariables false
set_option linter.unusedSimpArgs false

def toS (p : Int × Int) : S33 := ⟨p.1, p.2⟩
theorem C_of_RdW {w : World} {B : Nat} {A : Option Addr} {l : List (Int × Int)} (h : RdW w B A l) : Kd.C k33 w A (l.map toS).length (l.map toS) := by
  refine ⟨rfl, by rw [List.length_map]; exact h.1, fun hn => ?_⟩
  rw [List.length_map] at hn
  obtain ⟨b, off, rfl, _, hc⟩ := h.2 hn
  refine ⟨_, rfl, fun j p hp => ⟨[.int .i64 p.f0, .int .i64 p.f1], rfl, k33_mk w p, fun i u hu => ?_⟩⟩
  rw [List.getElem?_map, Option.map_eq_some_iff] at hp
  obtain ⟨q, hq, rfl⟩ := hp
  have hj : j < l.length := (List.getElem?_eq_some_iff.1 hq).1
  have hg : l.getD j (0, 0) = q := by rw [List.getD_eq_getElem?_getD, hq]; rfl
  have hcj := hc j hj
  rw [hg] at hcj
  have hs : k33.sz = 2 := rfl
  rw [hs, Addr.add_lit]
  match i, hu with
  | 0, hu => simp at hu; rw [← hu]; exact hcj.1
  | 1, hu => simp at hu; rw [← hu, ← Nat.add_assoc]; exact hcj.2

theorem same_loop (l : List S33) (hn : l.length ≤ 9223372036854775807) (d : Nat) : ∀ (k : Nat) (i : Nat), i ≤ l.length → l.length - i = d → d < k → freshetref21_Same.l0 k l l (i : Int) = some true := by
  induction d with
  | zero =>
    intro k i hi hd hk
    obtain ⟨k, rfl⟩ : ∃ m, k = m + 1 := ⟨k - 1, by omega⟩
    simp only [freshetref21_Same.l0]
    rw [if_neg (by omega)]
  | succ d ih =>
    intro k i hi hd hk
    obtain ⟨k, rfl⟩ : ∃ m, k = m + 1 := ⟨k - 1, by omega⟩
    simp only [freshetref21_Same.l0]
    rw [if_pos (by omega), if_pos (by omega), if_pos (by omega), if_neg (by simp), show wrap64 ((i : Int) + 1) = ((i + 1 : Nat) : Int) by unfold wrap64; omega]
    exact ih k (i + 1) (by omega) (by omega) (by omega)
theorem same_refl (l : List S33) (hn : l.length ≤ 9223372036854775807) : freshetref21_Same.f (l.length + 1) l l = some true := by
  unfold freshetref21_Same.f
  rw [if_pos rfl]
  exact same_loop l hn l.length _ 0 (by omega) (by omega) (by omega)
theorem same_any (A0 A1 : Option Addr) (c0 c1 : Nat) (l : List (Int × Int)) (w : World) (hr0 : Kd.C k33 w A0 (l.map toS).length (l.map toS)) (hc0 : l.length ≤ c0) (hr1 : Kd.C k33 w A1 (l.map toS).length (l.map toS)) (hc1 : l.length ≤ c1) :
    Calls Try.prog 14 #[.slice A0 l.length c0, .slice A1 l.length c1] w fun e w' => e = .returned (.bool true) ∧ Below w.heap.size w w' := by
  have h := freshetref21_Same.calls ((l.map toS).length + 1) A0 c0 (l.map toS) A1 c1 (l.map toS) true w hr0 (by rw [List.length_map]; exact hc0) hr1 (by rw [List.length_map]; exact hc1) (same_refl _ hr0.2.1)
  rw [List.length_map] at h
  exact h.mono fun e w' ⟨he, hd⟩ => ⟨he, hd.below⟩
theorem rd_at (l : List (Int × Int)) (i : Nat) : rd_T33 (l.map toS) (i : Int) = toS (l.getD i (0, 0)) := by
  unfold rd_T33
  rw [Int.toNat_natCast, List.getD_eq_getElem?_getD, List.getElem?_map, List.getD_eq_getElem?_getD]
  cases l[i]? <;> rfl
theorem wrap_succ (i n : Nat) (h : i < n) (hn : n ≤ 1000000) : wrap64 ((i : Int) + 1) = ((i + 1 : Nat) : Int) := by unfold wrap64; omega
theorem may_ref (a : Int × Int) : freshetref21_May.f a.1 a.2 = some (mayB a) := by
  unfold freshetref21_May.f mayB
  by_cases h1 : a.1 < a.2
  · by_cases h2 : a.1 ≥ -2251799813685248
    · rw [if_pos h1, if_pos h2]; simp [h1]; omega
    · rw [if_pos h1, if_neg h2]; simp [h1]; omega
  · rw [if_neg h1]; simp [h1]
theorem meet_ref (a b : Int × Int) : freshetref21_Meet.f a.1 a.2 b.1 b.2 = some (meetB a b) := by
  unfold freshetref21_Meet.f meetB
  by_cases h1 : a.2 < b.1
  · rw [if_pos h1]; simp; omega
  · rw [if_neg h1]; simp
    rw [Bool.eq_iff_iff]; simp; omega

/-- The windows ahead of place i are right, as the reference asks it. -/
def Pre (l : List (Int × Int)) (i : Nat) : Prop := ∀ j, j < i → mayB (l.getD j (0, 0)) = true ∧ ∀ k, k < j → meetB (l.getD k (0, 0)) (l.getD j (0, 0)) = false ∧ (l.getD k (0, 0)).1 < (l.getD j (0, 0)).1
theorem ap_pairs {l : List (Int × Int)} (h : Ap l) {k j : Nat} (hk : k < j) (hj : j < l.length) : (l.getD k (0, 0)).2 < (l.getD j (0, 0)).1 := by
  have := (List.pairwise_iff_getElem.1 h.1) k j (by omega) hj hk
  rwa [getD_eq l k (by omega), getD_eq l j hj]
theorem ap_may {l : List (Int × Int)} (h : Ap l) {j : Nat} (hj : j < l.length) : mayB (l.getD j (0, 0)) = true := by
  rw [getD_eq l j hj]; exact h.2 _ (List.getElem_mem _)
theorem pre_end {l : List (Int × Int)} (h : Pre l l.length) : apartFrom l 0 = true := by
  rw [apartFrom_true]
  intro i hi
  obtain ⟨h1, h2⟩ := h i hi
  refine ⟨h1, fun h0 => ?_⟩
  obtain ⟨h3, h4⟩ := h2 (i - 1) (by omega)
  have := may_lt h1
  have h5 : ¬ (((l.getD (i - 1) (0, 0)).1 ≤ (l.getD i (0, 0)).2) ∧ (l.getD i (0, 0)).1 ≤ (l.getD (i - 1) (0, 0)).2) := fun hc => by rw [meet_iff.2 hc] at h3; cases h3
  omega
theorem not_ap {l : List (Int × Int)} (h : ¬ Ap l) : some false = some (apartFrom l 0) := by rw [ap_false.2 h]

theorem apart_loop (l : List (Int × Int)) (hn : l.length ≤ 1000000) (d : Nat) : ∀ i, i ≤ l.length → l.length - i = d → Pre l i → ∃ K, freshetref21_Apart.l0 K (l.map toS) (i : Int) = some (apartFrom l 0) := by
  induction d with
  | zero =>
    intro i hi hd hp
    obtain rfl : i = l.length := by omega
    refine ⟨1, ?_⟩
    simp only [freshetref21_Apart.l0]
    rw [if_neg (by rw [List.length_map]; omega), pre_end hp]
  | succ d ih =>
    intro i hi hd hp
    have hil : i < l.length := by omega
    cases hm : mayB (l.getD i (0, 0))
    · refine ⟨1, ?_⟩
      simp only [freshetref21_Apart.l0]
      rw [if_pos (by rw [List.length_map]; omega), if_pos (by omega), rd_at]
      rw [show freshetref21_May.f (toS (l.getD i (0, 0))).f0 (toS (l.getD i (0, 0))).f1 = some false from (may_ref _).trans (by rw [hm])]
      refine not_ap fun h => ?_
      rw [ap_may h hil] at hm; cases hm
    · have inner : ∀ e j, j ≤ i → i - j = e → (∀ k, k < j → meetB (l.getD k (0, 0)) (l.getD i (0, 0)) = false ∧ (l.getD k (0, 0)).1 < (l.getD i (0, 0)).1) → ∃ K, freshetref21_Apart.l1 K (l.map toS) (i : Int) (j : Int) = some (apartFrom l 0) := by
        intro e
        induction e with
        | zero =>
          intro j hj he hq
          obtain rfl : j = i := by omega
          obtain ⟨K, hK⟩ := ih (j + 1) (by omega) (by omega) (by
            intro j' hj'
            by_cases h : j' < j
            · exact hp j' h
            · obtain rfl : j' = j := by omega
              exact ⟨hm, hq⟩)
          refine ⟨K + 1, ?_⟩
          simp only [freshetref21_Apart.l1]
          rw [if_neg (by omega), wrap_succ j _ hil hn]
          exact hK
        | succ e ih2 =>
          intro j hj he hq
          cases hmt : meetB (l.getD j (0, 0)) (l.getD i (0, 0))
          · by_cases hlt : (l.getD j (0, 0)).1 < (l.getD i (0, 0)).1
            · obtain ⟨K, hK⟩ := ih2 (j + 1) (by omega) (by omega) (by
                intro k hk
                by_cases h : k < j
                · exact hq k h
                · obtain rfl : k = j := by omega
                  exact ⟨hmt, hlt⟩)
              refine ⟨K + 1, ?_⟩
              simp only [freshetref21_Apart.l1]
              rw [if_pos (by omega), if_pos (by omega), if_pos (by rw [List.length_map]; omega), if_pos (by omega), if_pos (by rw [List.length_map]; omega), rd_at, rd_at]
              rw [show freshetref21_Meet.f (toS (l.getD j (0, 0))).f0 (toS (l.getD j (0, 0))).f1 (toS (l.getD i (0, 0))).f0 (toS (l.getD i (0, 0))).f1 = some false from (meet_ref _ _).trans (by rw [hmt])]
              simp only [Option.bind_some, Bool.false_eq_true, if_false]
              rw [if_neg (by show ¬ (l.getD j (0, 0)).1 ≥ (l.getD i (0, 0)).1; omega), wrap_succ j _ (by omega) hn]
              exact hK
            · refine ⟨1, ?_⟩
              simp only [freshetref21_Apart.l1]
              rw [if_pos (by omega), if_pos (by omega), if_pos (by rw [List.length_map]; omega), if_pos (by omega), if_pos (by rw [List.length_map]; omega), rd_at, rd_at]
              rw [show freshetref21_Meet.f (toS (l.getD j (0, 0))).f0 (toS (l.getD j (0, 0))).f1 (toS (l.getD i (0, 0))).f0 (toS (l.getD i (0, 0))).f1 = some false from (meet_ref _ _).trans (by rw [hmt])]
              simp only [Option.bind_some, Bool.false_eq_true, if_false]
              rw [if_pos (by show (l.getD j (0, 0)).1 ≥ (l.getD i (0, 0)).1; omega)]
              refine not_ap fun h => ?_
              have := ap_pairs h (show j < i by omega) hil
              have := may_lt (ap_may h (show j < l.length by omega))
              omega
          · refine ⟨1, ?_⟩
            simp only [freshetref21_Apart.l1]
            rw [if_pos (by omega), if_pos (by omega), if_pos (by rw [List.length_map]; omega), if_pos (by omega), if_pos (by rw [List.length_map]; omega), rd_at, rd_at]
            rw [show freshetref21_Meet.f (toS (l.getD j (0, 0))).f0 (toS (l.getD j (0, 0))).f1 (toS (l.getD i (0, 0))).f0 (toS (l.getD i (0, 0))).f1 = some true from (meet_ref _ _).trans (by rw [hmt])]
            simp only [Option.bind_some, if_true]
            refine not_ap fun h => ?_
            have := ap_pairs h (show j < i by omega) hil
            have := (meet_iff.1 hmt).2
            omega
      obtain ⟨K, hK⟩ := inner i 0 (by omega) (by omega) (by intro k hk; omega)
      refine ⟨K + 1, ?_⟩
      simp only [freshetref21_Apart.l0]
      rw [if_pos (by rw [List.length_map]; omega), if_pos (by omega), rd_at]
      rw [show freshetref21_May.f (toS (l.getD i (0, 0))).f0 (toS (l.getD i (0, 0))).f1 = some true from (may_ref _).trans (by rw [hm])]
      simp only [Option.bind_some, if_true]
      exact hK
theorem apart_ref (l : List (Int × Int)) (hn : l.length ≤ 1000000) : ∃ K, freshetref21_Apart.f K (l.map toS) = some (apartFrom l 0) :=
  apart_loop l hn l.length 0 (by omega) (by omega) (by intro j hj; omega)
end Go.Proofs.Ytgpmceimhfkncaa.WM
