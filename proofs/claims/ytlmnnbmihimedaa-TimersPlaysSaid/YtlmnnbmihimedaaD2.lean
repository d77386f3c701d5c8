/- The plain heap: adding and cutting. Conditions: as each theorem states them. -/
import Derived.Test.YtlmnnbmihimedaaD1
namespace Go.Proofs.Ytlmnnbmihimedaa
set_option linter.unusedVariables false
set_option linter.unusedSimpArgs false

def addL (tm : Nat → Tm) (x : Nat) (bs : List Nat) : List Nat := upL tm x bs.length (bs ++ [x]) bs.length
def addP (tm : Nat → Tm) (x : Nat) (bs : List Nat) (pl : Nat → Int) : Nat → Int := upP tm x bs.length (bs ++ [x]) bs.length pl
theorem snoc_getD {bs : List Nat} {x i : Nat} (h : i < bs.length) : (bs ++ [x]).getD i 0 = bs.getD i 0 := by
  rw [List.getD_eq_getElem?_getD, List.getD_eq_getElem?_getD, List.getElem?_append_left h]
theorem add_perm (tm : Nat → Tm) (x : Nat) (bs : List Nat) : (addL tm x bs).Perm (bs ++ [x]) := by
  have := upL_perm tm x bs.length (bs ++ [x]) bs.length (by simp)
  unfold addL
  refine this.trans ?_
  rw [List.set_append_right _ _ (Nat.le_refl _)]
  simp
theorem add_ord (tm : Nat → Tm) (x : Nat) (bs : List Nat) (h : HeapOrd tm bs) : HeapOrd tm (addL tm x bs) := by
  unfold addL
  refine up_ord tm x _ _ _ (by simp) (Nat.le_refl _) ?_ ?_ ?_
  · intro i hi hil hin hp
    simp at hil
    rw [snoc_getD (by omega), snoc_getD (by omega)]
    exact h i hi (by omega)
  · intro i hi hil hp h0
    simp at hil
    omega
  · intro i hi hil hp
    simp at hil
    omega
theorem nodup_getD {bs : List Nat} (h : bs.Nodup) {i j : Nat} (hi : i < bs.length) (hj : j < bs.length) (hne : i ≠ j) : bs.getD i 0 ≠ bs.getD j 0 := by
  rw [getD_get hi, getD_get hj]
  have hp := List.pairwise_iff_getElem.1 h
  intro e
  rcases Nat.lt_or_gt_of_ne hne with hl | hl
  · exact hp i j hi hj hl e
  · exact hp j i hj hi hl e.symm
theorem add_placed (tm : Nat → Tm) (x : Nat) (bs : List Nat) (pl : Nat → Int) (h : Placed bs pl) (hn : bs.Nodup) (hx : x ∉ bs) : Placed (addL tm x bs) (addP tm x bs pl) := by
  unfold addL addP
  refine up_placed tm x _ _ _ _ (by simp) ?_ ?_
  · intro i hi hne
    simp at hi
    rw [snoc_getD (by omega)]
    exact ⟨h i (by omega), fun e => hx (e ▸ getD_mem (by omega))⟩
  · intro i j hi hj hin hjn hij
    simp at hi hj
    rw [snoc_getD (by omega), snoc_getD (by omega)]
    exact nodup_getD hn (by omega) (by omega) hij
theorem drop_getD {bs : List Nat} {i : Nat} (h : i < bs.length - 1) : bs.dropLast.getD i 0 = bs.getD i 0 := by
  rw [getD_get (by simpa using h), getD_get (by omega), List.getElem_dropLast]
theorem drop_snoc {bs : List Nat} (h : 0 < bs.length) : bs.dropLast ++ [bs.getD (bs.length - 1) 0] = bs := by
  have hne : bs ≠ [] := by intro e; subst e; simp at h
  rw [getD_get (by omega)]
  have := List.dropLast_concat_getLast hne
  rw [List.getLast_eq_getElem] at this
  exact this
theorem cut_perm (tm : Nat → Tm) (bs : List Nat) (k : Nat) (hk : k < bs.length) : (bs.getD k 0 :: cutL tm bs k).Perm bs := by
  have hs := drop_snoc (bs := bs) (by omega)
  unfold cutL
  split
  · rename_i h
    have hl : (cutMid tm bs k).length = bs.length - 1 := by unfold cutMid; rw [upL_length]; simp
    have h1 := downL_perm tm ((cutMid tm bs k).getD k 0) (bs.length - 1) (cutMid tm bs k) k (by omega)
    have h2 : (cutMid tm bs k).set k ((cutMid tm bs k).getD k 0) = cutMid tm bs k := by
      rw [getD_get (by omega)]
      simp
    rw [h2] at h1
    have h3 : (cutMid tm bs k).Perm ((bs.dropLast.set k (bs.getD (bs.length - 1) 0)).set k (bs.getD (bs.length - 1) 0)) := upL_perm tm _ _ _ _ (by simpa using h)
    rw [List.set_set] at h3
    have h4 := set_perm bs.dropLast k (bs.getD (bs.length - 1) 0) (by simpa using h)
    rw [drop_getD h] at h4
    refine ((h1.trans h3).cons _).trans (h4.trans ?_)
    refine (List.perm_append_comm (l₁ := [_]) (l₂ := bs.dropLast)).trans ?_
    rw [hs]
  · rename_i h
    obtain rfl : k = bs.length - 1 := by omega
    refine (List.perm_append_comm (l₁ := [_]) (l₂ := bs.dropLast)).trans ?_
    rw [hs]
theorem cut_length (tm : Nat → Tm) (bs : List Nat) (k : Nat) (hk : k < bs.length) : (cutL tm bs k).length = bs.length - 1 := by
  have := (cut_perm tm bs k hk).length_eq
  simp at this
  omega
theorem cut_ord (tm : Nat → Tm) (bs : List Nat) (k : Nat) (hk : k < bs.length) (h : HeapOrd tm bs) : HeapOrd tm (cutL tm bs k) := by
  have hd : HeapOrd tm bs.dropLast := by
    intro i hi hil
    simp at hil
    rw [drop_getD (by omega), drop_getD (by omega)]
    exact h i hi (by omega)
  unfold cutL
  split
  · rename_i hkl
    have hkd : k < bs.dropLast.length := by simpa using hkl
    have hl : (cutMid tm bs k).length = bs.length - 1 := by unfold cutMid; rw [upL_length]; simp
    have hdl : bs.dropLast.length = bs.length - 1 := by simp
    -- around the hole the old list is in order
    have hob : ∀ y, OrdBut tm (bs.dropLast.set k y) k := by
      intro y i hi hil hik hpk
      rw [List.length_set] at hil
      rw [getD_set_ne (fun e => hik e.symm), getD_set_ne (fun e => hpk e.symm)]
      exact hd i hi hil
    have hov : ∀ y, OverBut tm (bs.dropLast.set k y) k := by
      intro y i hi hil hpk hk0
      rw [List.length_set] at hil
      rw [getD_set_ne (by omega), getD_set_ne (by omega)]
      have h1 := hd k hk0 hkd
      have h2 := hd i hi hil
      rw [hpk] at h2
      exact leT_trans h1 h2
    have hself : (cutMid tm bs k).set k ((cutMid tm bs k).getD k 0) = cutMid tm bs k := by
      rw [getD_get (by omega)]
      simp
    generalize hx : bs.getD (bs.length - 1) 0 = x at *
    by_cases hup : 0 < k ∧ cmpT (tm x) (tm ((bs.dropLast.set k x).getD ((k - 1) / 2) 0)) < 0
    · have hlt := cmpT_lt.1 hup.2
      have hup' : HeapOrd tm (cutMid tm bs k) := by
        unfold cutMid
        rw [hx]
        refine up_ord tm x _ _ _ (by simpa using hkd) (Nat.le_refl _) (hob x) (hov x) ?_
        intro i hi hil hpk
        exact leT_trans (.inl hlt) (hov x i hi hil hpk hup.1)
      refine down_ord tm _ _ _ _ (by omega) (by omega) ?_ ?_ ?_
      · intro i hi hil _ _
        exact hup' i hi hil
      · intro i hi hil hpk hk0
        have h1 := hup' k hk0 (by omega)
        have h2 := hup' i hi hil
        rw [hpk] at h2
        exact leT_trans h1 h2
      · intro hk0
        exact hup' k hk0 (by omega)
    · have hmid : cutMid tm bs k = bs.dropLast.set k x := by
        unfold cutMid
        rw [hx, upL_stop tm x k _ k hup, List.set_set]
      rw [hmid, getD_set_eq hkd]
      refine down_ord tm _ _ _ _ (by simpa using hkd) (by simp) (hob x) (hov x) ?_
      intro hk0
      exact leT_iff.2 (fun hc => hup ⟨hk0, hc⟩)
  · exact hd
theorem cut_placed (tm : Nat → Tm) (bs : List Nat) (k : Nat) (pl : Nat → Int) (hk : k < bs.length) (h : Placed bs pl) (hn : bs.Nodup) : Placed (cutL tm bs k) (cutP tm bs k pl) := by
  unfold cutL cutP
  split
  · rename_i hkl
    have hkd : k < bs.dropLast.length := by simpa using hkl
    have hl : (cutMid tm bs k).length = bs.length - 1 := by unfold cutMid; rw [upL_length]; simp
    have hdl : bs.dropLast.length = bs.length - 1 := by simp
    have hset : ∀ y : Nat, ApartBut k (bs.dropLast.set k y) := by
      intro y i j hi hj hik hjk hij
      rw [List.length_set] at hi hj
      rw [getD_set_ne (fun e => hik e.symm), getD_set_ne (fun e => hjk e.symm), drop_getD (by omega), drop_getD (by omega)]
      exact nodup_getD hn (by omega) (by omega) hij
    have hbut : PlacedBut (bs.getD (bs.length - 1) 0) k (bs.dropLast.set k (bs.getD (bs.length - 1) 0)) (plSet pl (bs.getD (bs.length - 1) 0) k) := by
      intro i hi hik
      rw [List.length_set] at hi
      rw [getD_set_ne (fun e => hik e.symm), drop_getD (by omega)]
      have hne := nodup_getD hn (i := i) (j := bs.length - 1) (by omega) (by omega) (by omega)
      refine ⟨?_, hne⟩
      unfold plSet
      rw [if_neg hne]
      exact h i (by omega)
    have h1 := up_placed tm _ k _ k _ (by simpa using hkd) hbut (hset _)
    have hmid : upL tm (bs.getD (bs.length - 1) 0) k (bs.dropLast.set k (bs.getD (bs.length - 1) 0)) k = cutMid tm bs k := rfl
    rw [hmid] at h1
    have hnd : (cutMid tm bs k).Nodup := by
      have hp : (cutMid tm bs k).Perm ((bs.dropLast.set k (bs.getD (bs.length - 1) 0)).set k (bs.getD (bs.length - 1) 0)) := upL_perm tm _ _ _ _ (by simpa using hkd)
      rw [List.set_set] at hp
      have h4 := set_perm bs.dropLast k (bs.getD (bs.length - 1) 0) hkd
      have h5 : (bs.getD (bs.length - 1) 0 :: bs.dropLast).Perm bs := by
        refine (List.perm_append_comm (l₁ := [_]) (l₂ := bs.dropLast)).trans ?_
        rw [drop_snoc (by omega)]
      have h6 := (h4.trans h5).nodup_iff.2 hn
      exact hp.nodup_iff.2 (List.nodup_cons.1 h6).2
    refine down_placed tm _ _ _ _ _ (by omega) ?_ ?_
    · intro i hi hik
      exact ⟨h1 i hi, nodup_getD hnd (by omega) (by omega) hik⟩
    · intro i j hi hj _ _ hij
      exact nodup_getD hnd hi hj hij
  · intro i hi
    simp at hi
    rw [drop_getD (by omega)]
    exact h i (by omega)
/-- The first one of a heap is not behind any. -/
theorem top_least (tm : Nat → Tm) (bs : List Nat) (h : HeapOrd tm bs) : ∀ (n i : Nat), i ≤ n → i < bs.length → leT (tm (bs.getD 0 0)) (tm (bs.getD i 0))
  | 0, i, hi, hil => by
    obtain rfl : i = 0 := by omega
    exact leT_refl _
  | n + 1, i, hi, hil => by
    by_cases h0 : i = 0
    · subst h0
      exact leT_refl _
    · exact leT_trans (top_least tm bs h n ((i - 1) / 2) (by omega) (by omega)) (h i (by omega) hil)
end Go.Proofs.Ytlmnnbmihimedaa
