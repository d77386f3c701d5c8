/- What Counts says, in plain words. Conditions: as each theorem states them. -/
import Derived.Test.YtmalcekbhnkfgaaJ0
import Derived.Test.YtmalcekbhnkfgaaF7
namespace Go.Proofs.Ytmalcekbhnkfgaa
open Go.RowKit Go.Maps Go.Shelf
set_option linter.unusedVariables false
set_option linter.unusedSimpArgs false

theorem addE_0 {l : List Pt} {p : Pt} (h : addE l p = 0) : comes l p ∧ ¬ clashL (allF l) p.fs ∧ l.length ≠ 16 := by
  by_cases hc : comes l p
  · rw [addE_t hc] at h
    unfold addG at h
    split at h
    · omega
    · rename_i h1
      split at h
      · omega
      · rename_i h2
        exact ⟨hc, h1, h2⟩
  · rw [addE_f hc] at h
    omega
theorem ids_last {l : List Pt} {p : Pt} (h : idsUp l) (hl : 0 < l.length → (l.getD (l.length - 1) zeroP).id < p.id) : ∀ q ∈ l, q.id < p.id := by
  intro q hq
  obtain ⟨i, hi, rfl⟩ := List.mem_iff_getElem.1 hq
  have h1 := hl (by omega)
  rw [getP (by omega)] at h1
  rcases Nat.lt_or_ge i (l.length - 1) with e | e
  · have h2 := List.pairwise_iff_getElem.1 h i (l.length - 1) hi (by omega) e
    omega
  · have e2 : i = l.length - 1 := by omega
    subst e2
    exact h1
theorem allF_added (l : List Pt) (p : Pt) : allF (l ++ [p]) = allF l ++ p.fs := by
  unfold allF
  rw [flat_append, List.map_append]
  simp [flat, Function.comp_def]
theorem right_add {l : List Pt} {p : Pt} (h : addE l p = 0) : RightP (l ++ [p]) := by
  obtain ⟨⟨hr, hm, hl⟩, hc, h16⟩ := addE_0 h
  refine ⟨?_, fun q hq => ?_, ?_, ?_⟩
  · have := hr.1
    rw [List.length_append, List.length_singleton]
    omega
  · rcases List.mem_append.1 hq with h1 | h1
    · exact hr.2.1 q h1
    · rw [List.mem_singleton.1 h1]
      exact hm
  · unfold idsUp
    rw [List.pairwise_append]
    refine ⟨hr.2.2.1, List.pairwise_singleton _ _, fun a ha b hb => ?_⟩
    rw [List.mem_singleton.1 hb]
    exact ids_last hr.2.2.1 hl a ha
  · rw [allF_added, noClash_append]
    exact ⟨hr.2.2.2, noClash_ok hm.2.2, hc⟩
theorem drop_added {l : List Pt} {p : Pt} (h : addE l p = 0) : dropL (l ++ [p]) p.id = l := by
  obtain ⟨⟨hr, hm, hl⟩, _⟩ := addE_0 h
  rw [dropL_snoc_f rfl]
  unfold dropL
  rw [List.filter_eq_self]
  intro q hq
  have := ids_last hr.2.2.1 hl q hq
  exact decide_eq_true (by omega)
theorem count_files (x : Int) (l : List Pt) (h : ∀ p ∈ l, (p.fs.map Sh.nm).Nodup) (k : Nat) : ((flat k l).map (fun y => y.2.nm)).count x ≤ l.length := by
  induction l generalizing k with
  | nil => simp [flat]
  | cons p l ih =>
    have h1 := ih (fun q hq => h q (List.mem_cons_of_mem _ hq)) (k + 1)
    have h2 := List.nodup_iff_count.1 (h p (List.mem_cons_self ..)) x
    simp only [flat, List.map_append, List.map_map, List.count_append, List.length_cons]
    have e : List.map ((fun y : Nat × Sh => y.2.nm) ∘ fun f => (k, f)) p.fs = p.fs.map Sh.nm := rfl
    rw [e]
    omega
theorem cnt_right {l : List Pt} (h : RightP l) : cntL l = nums (flat 0 l) := by unfold cntL; rw [if_pos h]
theorem count_le {l : List Pt} (h : RightP l) (x : Int) : (cntL l).count x ≤ l.length := by
  rw [cnt_right h]
  unfold nums
  rw [List.count_reverse]
  exact count_files x l (fun p hp => (h.2.1 p hp).2.2.2.2) 0
theorem cnt_length {l : List Pt} (h : RightP l) : (cntL l).length = (flat 0 l).length := by rw [cnt_right h, nums_length]
/-- The counts' sum. -/
def csum (M : List Int) (z : Nat → Int) : Nat → Nat
  | 0 => 0
  | i + 1 => csum M z i + M.count (z i)
theorem csum_mono (M : List Int) (z : Nat → Int) {i j : Nat} (h : i ≤ j) : csum M z i ≤ csum M z j := by
  induction j with
  | zero => obtain rfl : i = 0 := by omega
            exact Nat.le_refl _
  | succ j ih =>
    rcases Nat.lt_or_ge j i with e | e
    · obtain rfl : i = j + 1 := by omega
      exact Nat.le_refl _
    · have h1 := ih e
      show csum M z i ≤ csum M z j + _
      omega
theorem csum_nil (z : Nat → Int) (i : Nat) : csum [] z i = 0 := by
  induction i with
  | zero => rfl
  | succ i ih => show csum [] z i + List.count (z i) [] = 0; rw [ih]; rfl
theorem csum_cons (x : Int) (M : List Int) (z : Nat → Int) (i : Nat) : csum (x :: M) z i = csum M z i + csum [x] z i := by
  induction i with
  | zero => rfl
  | succ i ih =>
    show csum (x :: M) z i + List.count (z i) (x :: M) = (csum M z i + List.count (z i) M) + (csum [x] z i + List.count (z i) [x])
    rw [ih, List.count_cons, List.count_cons, List.count_nil]
    omega
theorem csum_one (x : Int) (z : Nat → Int) (n : Nat) (hz : ∀ p q, p < q → q < n → z p < z q) : (∀ i, i ≤ n → (∀ j, j < i → z j ≠ x) → csum [x] z i = 0) ∧ (∀ i, i ≤ n → (∃ j, j < i ∧ z j = x) → csum [x] z i = 1) := by
  have h0 : ∀ i, i ≤ n → (∀ j, j < i → z j ≠ x) → csum [x] z i = 0 := by
    intro i
    induction i with
    | zero => intro _ _; rfl
    | succ i ih =>
      intro h1 h2
      show csum [x] z i + List.count (z i) [x] = 0
      rw [ih (by omega) (fun j hj => h2 j (by omega)), List.count_cons, List.count_nil]
      have := h2 i (by omega)
      simp [this.symm]
  refine ⟨h0, ?_⟩
  intro i
  induction i with
  | zero => rintro _ ⟨j, hj, _⟩; omega
  | succ i ih =>
    rintro h1 ⟨j, hj, e⟩
    show csum [x] z i + List.count (z i) [x] = 1
    rw [List.count_cons, List.count_nil]
    by_cases hji : j < i
    · rw [ih (by omega) ⟨j, hji, e⟩]
      have := hz j i hji (by omega)
      have hne : ¬ x = z i := by omega
      simp [hne]
    · obtain rfl : j = i := by omega
      rw [h0 j (by omega) (fun k hk e2 => by have := hz k j hk (by omega); omega)]
      simp [e]
theorem csum_all (M : List Int) (z : Nat → Int) (n : Nat) (hz : ∀ p q, p < q → q < n → z p < z q) (hM : ∀ x ∈ M, ∃ i, i < n ∧ z i = x) : csum M z n = M.length := by
  induction M with
  | nil => exact csum_nil z n
  | cons x M ih =>
    rw [csum_cons, ih (fun y hy => hM y (List.mem_cons_of_mem _ hy)), (csum_one x z n hz).2 n (Nat.le_refl _) (hM x (List.mem_cons_self ..))]
    rfl
theorem csum_keys {l : List Pt} {n : Nat} {z : Nat → Int} (h : RightP l) (hk : CKeys (cntL l) n z) : csum (cntL l) z n = (cntL l).length :=
  csum_all _ z n hk.1 (fun x hx => by
    have hx' := hx
    rw [cnt_right h] at hx'
    unfold nums at hx'
    rw [List.mem_reverse, List.mem_map] at hx'
    obtain ⟨y, _, rfl⟩ := hx'
    exact (hk.2.1 ⟨y.2.nm, y.2.wn⟩).2 hx)
theorem files_step {l : List Pt} {i : Nat} (hi : i < l.length) : (flat 0 (l.take (i + 1))).length = (flat 0 (l.take i)).length + (l.getD i zeroP).fs.length := by
  rw [take_snocP hi, flat_append, List.length_append]
  simp [flat]
end Go.Proofs.Ytmalcekbhnkfgaa
