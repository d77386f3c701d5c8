/- The contracts of window.Assign in one form, and of awake, for every world. Conditions: as each theorem states them. -/
import Derived.Test.YtgpmceimhfkncaaB2
import Derived.Laws.StructEq
namespace Go.Proofs.Ytgpmceimhfkncaa
open Go.RowKit
set_option linter.unusedVariables false
set_option linter.unusedSimpArgs false

/-- What Assign answers. -/
def asgV (K S L t : Int) : List (Int × Int) × Int :=
  if chkV K S L = 0 ∧ -1125899906842624 ≤ t ∧ t ≤ 1125899906842624 then (winsL K S L t, 0) else ([], 2)
theorem chkV_kind {K S L : Int} (h : chkV K S L = 0) : K = 1 ∨ K = 2 ∨ K = 3 := by
  unfold chkV at h
  by_cases h1 : K = 1 ∨ K = 3
  · omega
  · rw [if_neg h1] at h
    by_cases h2 : K = 2
    · omega
    · rw [if_neg h2] at h
      omega
theorem assign_any (K S L t : Int) (w : World) (l : List (Int × Int)) (er : Int) (hq : asgV K S L t = (l, er)) :
    Calls Try.prog 12 #[.agg #[.int .i64 K, .int .i64 S, .int .i64 L], .int .i64 t] w fun e w' => ∃ v, e = .returned (.tuple #[v, .int .i64 er]) ∧ w'.ownsRow w.heap.size 33 2 v l.length (wcells l) ∧ Below w.heap.size w w' := by
  unfold asgV at hq
  by_cases h : chkV K S L = 0 ∧ -1125899906842624 ≤ t ∧ t ≤ 1125899906842624
  · rw [if_pos h, Prod.mk.injEq] at hq
    obtain ⟨rfl, rfl⟩ := hq
    obtain ⟨h0, h1, h2⟩ := h
    have g1 : ¬ t < -1125899906842624 := by omega
    have g2 : ¬ 1125899906842624 < t := by omega
    rcases chkV_kind h0 with rfl | rfl | rfl
    · exact assign_1 S L t w h0 g1 g2
    · have := assign_2 S L t w h0 g1 g2
      unfold winsL
      rw [if_neg (by decide), if_pos rfl]
      have e : (slL t S L (slN t S L)).length = slN t S L := by simp [slL]
      rw [e]
      exact this
    · exact assign_3 S L t w h0 g1 g2
  · rw [if_neg h, Prod.mk.injEq] at hq
    obtain ⟨rfl, rfl⟩ := hq
    refine (assign_no K S L t w ?_).mono fun e w' ⟨he, hb⟩ => ⟨_, he, World.ownsRow_nil _ _ _ _, hb⟩
    unfold asgNo
    rcases chkV_or K S L with h0 | h0
    · right; refine ⟨h0, ?_⟩; omega
    · exact .inl h0

/-- A row of the call's own, of windows, that is not empty: where it lies, what its cells hold. -/
theorem own_reads {w : World} {base : Nat} {v : Value} {l : List (Int × Int)} (h : w.ownsRow base 33 2 v l.length (wcells l)) : ∃ A c, v = .slice A l.length c ∧ l.length ≤ c ∧ RdW w w.heap.size A l := by
  obtain ⟨h1, h2⟩ := h
  rcases h2 with ⟨rfl, h0⟩ | ⟨g, cap, cur, rfl, hb, hh, hc, hm, hs, ht⟩
  · rw [h0]
    exact ⟨_, _, rfl, by omega, ⟨by omega, fun hn => by omega⟩⟩
  · refine ⟨_, _, rfl, hc, ⟨by simp only [maxLen] at hm; omega, fun hn => ⟨g, 0, rfl, (Array.getElem?_eq_some_iff.1 hh).1, fun i hi => ?_⟩⟩⟩
    have hcell : ∀ j u, (wcells l)[j]? = some u → w.cell? ⟨g, j, none⟩ = some u := by
      intro j u hu
      rw [cell_of_row w g j cur 33 (0, 0) hh]
      rw [← ht, List.getElem?_take] at hu
      split at hu
      · simpa using hu
      · cases hu
    have hw : ∀ (l : List (Int × Int)) (i : Nat), i < l.length → (wcells l)[i * 2]? = some (.int .i64 (l.getD i (0, 0)).1) ∧ (wcells l)[i * 2 + 1]? = some (.int .i64 (l.getD i (0, 0)).2) := by
      intro l
      induction l with
      | nil => intro i hi; simp at hi
      | cons p l ih =>
        intro i hi
        cases i with
        | zero => simp [wcells]
        | succ i =>
          have := ih i (by simpa using hi)
          rw [show (i + 1) * 2 = i * 2 + 1 + 1 by omega]
          simpa [wcells] using this
    have hwi := hw l i hi
    exact ⟨by simpa using hcell _ _ hwi.1, by simpa using hcell _ _ hwi.2⟩

set_option maxHeartbeats 1000000 in
theorem awake_any (w : World) : Calls Try.prog 17 #[] w fun e w' => e = .returned (.bool true) ∧ Below w.heap.size w w' := by
  have h1 : asgV 2 10 4 9 = ([(0, 10), (4, 14), (8, 18)], 0) := by decide
  have h2 : asgV 1 10 0 (-1) = ([(-10, 0)], 0) := by decide
  have h3 : mergeV [(0, 5), (10, 15)] (5, 9) = ((0, 9), [(0, 5)], [(0, 9), (10, 15)], 0) := by decide
  have H1 := Lib.hid h1
  have H2 := Lib.hid h2
  have H3 := Lib.hid h3
  clear h1 h2 h3
  go_enter Try.func17, Try.ntmps17
  go_wp2_with (fail)
  refine (assign_any 2 10 4 9 _ _ _ H1.out).mono ?_
  rintro e w1 ⟨v1, rfl, hown1, hb1⟩
  obtain ⟨A1, c1, rfl, hc1, hr1⟩ := own_reads hown1
  clear hown1
  go_wp2_with (fail)
  refine (assign_any 1 10 0 (-1) _ _ _ H2.out).mono ?_
  rintro e w2 ⟨v2, rfl, hown2, hb2⟩
  obtain ⟨A2, c2, rfl, hc2, hr2⟩ := own_reads hown2
  clear hown2
  obtain ⟨b1, o1, rfl, hl1, g11, g12⟩ := (hr1.below hb2).at_ (k := 2) (by decide)
  obtain ⟨b2, o2, rfl, hl2, g21, g22⟩ := hr2.at_ (k := 0) (by decide)
  clear hr1 hr2
  go_wp2_with (fail)
  refine (merge_any _ _ [(0, 5), (10, 15)] 5 9 _ ?_ (by decide) (by decide) _ _ _ _ H3.out).mono ?_
  · refine ⟨by decide, fun _ => ⟨_, 0, rfl, by simp, ?_⟩⟩
    intro i hi
    match i, hi with
    | 0, _ => exact ⟨by go_simp, by go_simp⟩
    | 1, _ => exact ⟨by go_simp, by go_simp⟩
  rintro e w3 ⟨vg, vr, rfl, hg, hr, hb3⟩
  obtain ⟨A3, c3, rfl, _, _⟩ := own_reads hg
  obtain ⟨A4, c4, rfl, _, _⟩ := own_reads hr
  have hlt := hb2.size
  have q11 := (hb3.cell (p := ⟨b1, o1 + 2 * 2, none⟩) (by simp; omega)).trans ((World.cell?_alloc_past _ _ _ (by omega)).trans g11)
  have q12 := (hb3.cell (p := ⟨b1, o1 + 2 * 2 + 1, none⟩) (by simp; omega)).trans ((World.cell?_alloc_past _ _ _ (by omega)).trans g12)
  have q21 := (hb3.cell (p := ⟨b2, o2 + 0 * 2, none⟩) (by simp; omega)).trans ((World.cell?_alloc_past _ _ _ (by omega)).trans g21)
  have hz1 : b1 < w3.heap.size := by have := hb3.size; simp at this; omega
  have hz2 : b2 < w3.heap.size := by have := hb3.size; simp at this; omega
  simp at q11 q12 q21
  clear g11 g12 g21 g22 hg hr
  simp only [List.length_cons, List.length_nil] at hc1 hc2 ⊢
  go_wp2
  go_ret
  refine ⟨rfl, ?_⟩
  repeat first | exact Below.refl _ _ | refine Below.drew ?_ | refine bl_alloc ?_ _ | refine bl_then ?_ hb3 | refine bl_then ?_ hb2 | refine bl_then ?_ hb1
end Go.Proofs.Ytgpmceimhfkncaa
