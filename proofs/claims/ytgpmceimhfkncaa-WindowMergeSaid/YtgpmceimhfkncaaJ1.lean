/- The printed answer of the reference's Merge is that of the program's Merge, in plain numbers and lists. Conditions: as each theorem states them. -/
import Derived.Test.YtgpmceimhfkncaaJ0
namespace Go.Proofs.Ytgpmceimhfkncaa.WM
open Go.RowKit Go.Proofs.Ytgpmceimhfkncaa Go.Proofs.Ytgpmceimhfkncaa.PWindowMerge Go.Proofs.YtgpmceimhfkncaaW.PrintWords Go.Proofs.YtgpmceimhfkncaaW.PrintLast Go.Proofs.YtgpmceimhfkncaaW.PrintMore
set_option linter.unusedVariables false
set_option linter.unusedSimpArgs false

theorem mn_min (a b : Int) : mn a b = min a b := by unfold mn; split <;> omega
theorem mx_max (a b : Int) : mx a b = max a b := by unfold mx; split <;> omega
theorem map_snoc (l : List (Int × Int)) (y : Int × Int) : l.map toS ++ [toS y] = (l ++ [y]).map toS := by simp
def notF (x : Int × Int) (l : List (Int × Int)) : List (Int × Int) := l.filter fun y => !meetB y x
theorem notF_snoc (x : Int × Int) (l : List (Int × Int)) (y : Int × Int) : notF x (l ++ [y]) = if meetB y x then notF x l else notF x l ++ [y] := by
  simp only [notF, List.filter_append, List.filter_cons, List.filter_nil]
  cases meetB y x <;> simp
theorem notF_len (x : Int × Int) (l : List (Int × Int)) : (notF x l).length ≤ l.length := List.length_filter_le _ _
def lowF (o : Int × Int) (l : List (Int × Int)) : List (Int × Int) := l.filter fun y => decide (y.1 < o.1)
def highF (o : Int × Int) (l : List (Int × Int)) : List (Int × Int) := l.filter fun y => decide (o.1 < y.1)
theorem filter_snoc (p : (Int × Int) → Bool) (l : List (Int × Int)) (y : Int × Int) : (l ++ [y]).filter p = if p y then l.filter p ++ [y] else l.filter p := by
  simp only [List.filter_append, List.filter_cons, List.filter_nil]
  cases p y <;> simp

theorem loop2 (G t : List (Int × Int)) (o : Int × Int) (pre : List (Int × Int)) (hn : t.length ≤ 1000000) (hp : pre.length ≤ 1000001) (d : Nat) : ∀ i, i ≤ t.length → t.length - i = d →
    ∃ K, freshetref21_Merge.l2 K (G.map toS) (t.map toS) ((pre ++ highF o (t.take i)).map toS) (i : Int) o.1 o.2 = some (o.1, o.2, G.map toS, (pre ++ highF o t).map toS, 0) := by
  induction d with
  | zero =>
    intro i hi hd
    refine ⟨1, ?_⟩
    simp only [freshetref21_Merge.l2]
    rw [if_neg (by rw [List.length_map]; omega), List.take_of_length_le (by omega)]
  | succ d ih =>
    intro i hi hd
    have hil : i < t.length := by omega
    obtain ⟨K, hK⟩ := ih (i + 1) (by omega) (by omega)
    refine ⟨K + 1, ?_⟩
    have hlen : (highF o (t.take i)).length ≤ i := Nat.le_trans (List.length_filter_le _ _) (by rw [List.length_take]; omega)
    rw [take_snoc t i hil] at hK
    simp only [freshetref21_Merge.l2]
    rw [if_pos (by rw [List.length_map]; omega), if_pos (by omega), rd_at, wrap_succ i _ hil hn]
    rw [highF, filter_snoc] at hK
    by_cases h : o.1 < (t.getD i (0, 0)).1
    · rw [if_pos (by show (t.getD i (0, 0)).1 > o.1; omega), if_pos (by rw [List.length_map, List.length_append]; omega)]
      rw [if_pos (by simpa using h), ← List.append_assoc, ← map_snoc] at hK
      exact hK
    · rw [if_neg (by show ¬ (t.getD i (0, 0)).1 > o.1; omega)]
      rw [if_neg (by simpa using h)] at hK
      exact hK
theorem loop1 (G t : List (Int × Int)) (o : Int × Int) (hn : t.length ≤ 1000000) (d : Nat) : ∀ i, i ≤ t.length → t.length - i = d →
    ∃ K, freshetref21_Merge.l1 K (G.map toS) (t.map toS) ((lowF o (t.take i)).map toS) (i : Int) o.1 o.2 = some (o.1, o.2, G.map toS, (lowF o t ++ [o] ++ highF o t).map toS, 0) := by
  induction d with
  | zero =>
    intro i hi hd
    have hlen : (lowF o t).length ≤ t.length := List.length_filter_le _ _
    obtain ⟨K, hK⟩ := loop2 G t o (lowF o t ++ [o]) hn (by rw [List.length_append, List.length_singleton]; omega) t.length 0 (by omega) (by omega)
    refine ⟨K + 1, ?_⟩
    simp only [freshetref21_Merge.l1]
    rw [if_neg (by rw [List.length_map]; omega), List.take_of_length_le (by omega), if_pos (by rw [List.length_map]; omega)]
    simp only [List.take_zero, highF, List.filter_nil, List.append_nil] at hK
    rw [← map_snoc] at hK
    exact hK
  | succ d ih =>
    intro i hi hd
    have hil : i < t.length := by omega
    obtain ⟨K, hK⟩ := ih (i + 1) (by omega) (by omega)
    refine ⟨K + 1, ?_⟩
    have hlen : (lowF o (t.take i)).length ≤ i := Nat.le_trans (List.length_filter_le _ _) (by rw [List.length_take]; omega)
    rw [take_snoc t i hil] at hK
    simp only [freshetref21_Merge.l1]
    rw [if_pos (by rw [List.length_map]; omega), if_pos (by omega), rd_at, wrap_succ i _ hil hn]
    rw [lowF, filter_snoc] at hK
    by_cases h : (t.getD i (0, 0)).1 < o.1
    · rw [if_pos (by show (t.getD i (0, 0)).1 < o.1; omega), if_pos (by rw [List.length_map]; omega)]
      rw [if_pos (by simpa using h), ← map_snoc] at hK
      exact hK
    · rw [if_neg (by show ¬ (t.getD i (0, 0)).1 < o.1; omega)]
      rw [if_neg (by simpa using h)] at hK
      exact hK
theorem loop0 (l : List (Int × Int)) (x : Int × Int) (hn : l.length ≤ 1000000) (d : Nat) : ∀ i, i ≤ l.length → l.length - i = d →
    ∃ K, freshetref21_Merge.l0 K (l.map toS) ((goneF x (l.take i)).map toS) ((notF x (l.take i)).map toS) (i : Int) x.1 x.2 (oneF x (l.take i)).1 (oneF x (l.take i)).2 =
      some ((oneF x l).1, (oneF x l).2, (goneF x l).map toS, (lowF (oneF x l) (notF x l) ++ [oneF x l] ++ highF (oneF x l) (notF x l)).map toS, 0) := by
  induction d with
  | zero =>
    intro i hi hd
    have := notF_len x l
    obtain ⟨K, hK⟩ := loop1 (goneF x l) (notF x l) (oneF x l) (by omega) (notF x l).length 0 (by omega) (by omega)
    refine ⟨K + 1, ?_⟩
    simp only [freshetref21_Merge.l0]
    rw [if_neg (by rw [List.length_map]; omega), List.take_of_length_le (by omega)]
    exact hK
  | succ d ih =>
    intro i hi hd
    have hil : i < l.length := by omega
    obtain ⟨K, hK⟩ := ih (i + 1) (by omega) (by omega)
    refine ⟨K + 1, ?_⟩
    have hl1 : (goneF x (l.take i)).length ≤ i := Nat.le_trans (goneF_len _ _) (by rw [List.length_take]; omega)
    have hl2 : (notF x (l.take i)).length ≤ i := Nat.le_trans (notF_len _ _) (by rw [List.length_take]; omega)
    rw [take_snoc l i hil, oneF_snoc, goneF_snoc, notF_snoc, oneS] at hK
    simp only [freshetref21_Merge.l0]
    rw [if_pos (by rw [List.length_map]; omega), if_pos (by omega), rd_at, wrap_succ i _ hil hn]
    rw [show freshetref21_Meet.f (toS (l.getD i (0, 0))).f0 (toS (l.getD i (0, 0))).f1 x.1 x.2 = some (meetB (l.getD i (0, 0)) x) from meet_ref _ _]
    simp only [Option.bind_some]
    cases hm : meetB (l.getD i (0, 0)) x
    · rw [hm] at hK
      simp only [Bool.false_eq_true, if_false] at hK ⊢
      rw [if_pos (by rw [List.length_map]; omega)]
      rw [← map_snoc] at hK
      exact hK
    · rw [hm] at hK
      simp only [if_true] at hK ⊢
      rw [if_pos (by rw [List.length_map]; omega), mn_min, mx_max]
      rw [← map_snoc] at hK
      exact hK
theorem rest_ref {x : Int × Int} {l : List (Int × Int)} (h : Ap l) (hx : mayB x = true) : lowF (oneF x l) (notF x l) ++ [oneF x l] ++ highF (oneF x l) (notF x l) = restL (oneF x l) l := by
  have hol := may_lt (one_may h hx)
  have e1 : lowF (oneF x l) (notF x l) = l.filter (fun y => decide (y.1 < (oneF x l).1)) := by
    unfold lowF notF
    rw [List.filter_filter]
    refine List.filter_congr fun y hy => ?_
    have := not_met h hx hy
    by_cases hc : y.1 < (oneF x l).1
    · rw [this.2 (.inl hc)]; simp
    · simp [hc]
  have e2 : highF (oneF x l) (notF x l) = l.filter (fun y => decide ((oneF x l).2 < y.1)) := by
    unfold highF notF
    rw [List.filter_filter]
    refine List.filter_congr fun y hy => ?_
    have := not_met h hx hy
    by_cases hc : (oneF x l).2 < y.1
    · have h2 : (oneF x l).1 < y.1 := by omega
      rw [this.2 (.inr hc)]; simp [hc, h2]
    · cases hm : meetB y x
      · rcases this.1 hm with h2 | h2
        · have : ¬ (oneF x l).1 < y.1 := by omega
          simp [hc, this]
        · exact absurd h2 hc
      · simp [hc]
  rw [restL_eq h hx, e1, e2]
  simp
theorem merge_ref (l : List (Int × Int)) (x : Int × Int) (hn : l.length ≤ 1000000) : ∃ K, freshetref21_Merge.f K (l.map toS) x.1 x.2 =
    some ((mergeV l x).1.1, (mergeV l x).1.2, (mergeV l x).2.1.map toS, (mergeV l x).2.2.1.map toS, (mergeV l x).2.2.2) := by
  obtain ⟨K1, h1⟩ := apart_ref l hn
  unfold mergeV
  cases ha : apartFrom l 0
  · rw [ha] at h1
    refine ⟨K1 + 1, ?_⟩
    unfold freshetref21_Merge.f
    rw [at_rounds (g := fun k => freshetref21_Apart.f k (l.map toS)) (fun k => freshetref21_Apart.mono _ k) (k' := K1 + 1) (by omega) h1]
    simp [freshetref21_Merge.j0]
  · rw [ha] at h1
    cases hm : mayB x
    · refine ⟨K1 + 1, ?_⟩
      unfold freshetref21_Merge.f
      rw [at_rounds (g := fun k => freshetref21_Apart.f k (l.map toS)) (fun k => freshetref21_Apart.mono _ k) (k' := K1 + 1) (by omega) h1]
      simp [freshetref21_Merge.j0, may_ref, hm]
    · obtain ⟨K2, h2⟩ := loop0 l x hn l.length 0 (by omega) (by omega)
      have hj : freshetref21_Merge.j0 (K2 + 1) (l.map toS) false x.1 x.2 = some ((oneF x l).1, (oneF x l).2, (goneF x l).map toS, (lowF (oneF x l) (notF x l) ++ [oneF x l] ++ highF (oneF x l) (notF x l)).map toS, 0) := h2
      rw [rest_ref ((ap_iff l).1 ha) hm] at hj
      have hf : freshetref21_Merge.f (K1 + (K2 + 1)) (l.map toS) x.1 x.2 = freshetref21_Merge.j0 (K1 + (K2 + 1)) (l.map toS) false x.1 x.2 := by
        unfold freshetref21_Merge.f
        rw [at_rounds (g := fun k => freshetref21_Apart.f k (l.map toS)) (fun k => freshetref21_Apart.mono _ k) (k' := K1 + (K2 + 1)) (by omega) h1]
        simp [may_ref, hm]
      refine ⟨K1 + (K2 + 1), ?_⟩
      rw [hf]
      simp only [Bool.and_self, if_true]
      exact at_rounds (g := fun k => freshetref21_Merge.j0 k (l.map toS) false x.1 x.2) (fun k => (freshetref21_Merge.mono_l k).1 _ _ _ _) (by omega) hj
end Go.Proofs.Ytgpmceimhfkncaa.WM
