/- The plain heap: what rises and what sinks keeps what there is, each at its place, and sets it in order. Conditions: as each theorem states them. -/
import Derived.Test.YtlmnnbmihimedaaD0
namespace Go.Proofs.Ytlmnnbmihimedaa
set_option linter.unusedVariables false
set_option linter.unusedSimpArgs false

theorem getD_get {l : List Nat} {i : Nat} (h : i < l.length) : l.getD i 0 = l[i] := by
  rw [List.getD_eq_getElem?_getD, List.getElem?_eq_getElem h]
  rfl
theorem getD_set_eq {l : List Nat} {i : Nat} (h : i < l.length) (x : Nat) : (l.set i x).getD i 0 = x := by
  rw [getD_get (by simpa using h)]
  simp
theorem getD_set_ne {l : List Nat} {i j : Nat} (h : i ≠ j) (x : Nat) : (l.set i x).getD j 0 = l.getD j 0 := by
  rw [List.getD_eq_getElem?_getD, List.getD_eq_getElem?_getD, List.getElem?_set_ne h]
theorem getD_mem {l : List Nat} {i : Nat} (h : i < l.length) : l.getD i 0 ∈ l := by
  rw [getD_get h]
  exact List.getElem_mem h
theorem set_perm : ∀ (l : List Nat) (i x : Nat), i < l.length → (l.getD i 0 :: l.set i x).Perm (x :: l)
  | [], i, x, h => by simp at h
  | a :: l, 0, x, h => by
    simp only [List.set_cons_zero]
    exact List.Perm.swap _ _ _
  | a :: l, i + 1, x, h => by
    have ih := set_perm l i x (by simpa using h)
    simp only [List.set_cons_succ]
    have e : (a :: l).getD (i + 1) 0 = l.getD i 0 := by simp [List.getD_eq_getElem?_getD]
    rw [e]
    exact (List.Perm.swap _ _ _).trans ((ih.cons a).trans (List.Perm.swap _ _ _))
theorem swap_perm (l : List Nat) (k p x : Nat) (hk : k < l.length) (hp : p < l.length) (hne : p ≠ k) : ((l.set k (l.getD p 0)).set p x).Perm (l.set k x) := by
  have h1 := set_perm (l.set k (l.getD p 0)) p x (by simpa using hp)
  rw [getD_set_ne hne.symm] at h1
  have h2 := set_perm l k (l.getD p 0) hk
  have h3 := set_perm l k x hk
  have h4 : (l.getD k 0 :: l.getD p 0 :: (l.set k (l.getD p 0)).set p x).Perm (l.getD k 0 :: l.getD p 0 :: l.set k x) := by
    refine (h1.cons _).trans ((List.Perm.swap _ _ _).trans ((h2.cons x).trans ((List.Perm.swap _ _ _).trans ((h3.symm.cons _).trans (List.Perm.swap _ _ _)))))
  exact (List.perm_cons _).1 ((List.perm_cons _).1 h4)
theorem upL_perm (tm : Nat → Tm) (x : Nat) : ∀ (f : Nat) (bs : List Nat) (k : Nat), k < bs.length → (upL tm x f bs k).Perm (bs.set k x)
  | 0, bs, k, hk => List.Perm.refl _
  | f + 1, bs, k, hk => by
    simp only [upL]
    split
    · rename_i h
      refine (upL_perm tm x f _ _ (by simp; omega)).trans ?_
      exact swap_perm bs k ((k - 1) / 2) x hk (by omega) (by omega)
    · exact List.Perm.refl _
theorem kid_cases (tm : Nat → Tm) (bs : List Nat) (k : Nat) : (kid tm bs k = 2 * k + 2 ∧ 2 * k + 2 < bs.length ∧ cmpT (tm (bs.getD (2 * k + 2) 0)) (tm (bs.getD (2 * k + 1) 0)) < 0) ∨ (kid tm bs k = 2 * k + 1 ∧ ¬ (2 * k + 2 < bs.length ∧ cmpT (tm (bs.getD (2 * k + 2) 0)) (tm (bs.getD (2 * k + 1) 0)) < 0)) := by
  unfold kid
  split
  · rename_i h
    exact .inl ⟨rfl, h⟩
  · rename_i h
    exact .inr ⟨rfl, h⟩
theorem kid_gt (tm : Nat → Tm) (bs : List Nat) (k : Nat) : k < kid tm bs k := by
  rcases kid_cases tm bs k with ⟨h, _⟩ | ⟨h, _⟩ <;> omega
theorem kid_par (tm : Nat → Tm) (bs : List Nat) (k : Nat) : (kid tm bs k - 1) / 2 = k := by
  rcases kid_cases tm bs k with ⟨h, _⟩ | ⟨h, _⟩ <;> omega
theorem downL_perm (tm : Nat → Tm) (x : Nat) : ∀ (f : Nat) (bs : List Nat) (k : Nat), k < bs.length → (downL tm x f bs k).Perm (bs.set k x)
  | 0, bs, k, hk => List.Perm.refl _
  | f + 1, bs, k, hk => by
    simp only [downL]
    split
    · rename_i h
      have := kid_gt tm bs k
      refine (downL_perm tm x f _ _ (by simpa using h.1)).trans ?_
      exact swap_perm bs k (kid tm bs k) x hk h.1 (by omega)
    · exact List.Perm.refl _
/-! Places. -/
def Placed (bs : List Nat) (pl : Nat → Int) : Prop := ∀ i, i < bs.length → pl (bs.getD i 0) = (i : Int)
/-- Each but what is at the hole k. -/
def PlacedBut (x k : Nat) (bs : List Nat) (pl : Nat → Int) : Prop := ∀ i, i < bs.length → i ≠ k → pl (bs.getD i 0) = (i : Int) ∧ bs.getD i 0 ≠ x
/-- No two are the same but at the hole. -/
def ApartBut (k : Nat) (bs : List Nat) : Prop := ∀ i j, i < bs.length → j < bs.length → i ≠ k → j ≠ k → i ≠ j → bs.getD i 0 ≠ bs.getD j 0
theorem placed_set {x k : Nat} {bs : List Nat} {pl : Nat → Int} (h : PlacedBut x k bs pl) : Placed (bs.set k x) (plSet pl x k) := by
  intro i hi
  rw [List.length_set] at hi
  unfold plSet
  by_cases hik : k = i
  · subst hik
    rw [getD_set_eq hi]
    simp
  · rw [getD_set_ne hik]
    obtain ⟨h1, h2⟩ := h i hi (fun e => hik e.symm)
    rw [if_neg h2, h1]
theorem placed_move {x k p : Nat} {bs : List Nat} {pl : Nat → Int} (hk : k < bs.length) (hp : p < bs.length) (hne : p ≠ k) (h : PlacedBut x k bs pl) (ha : ApartBut k bs) :
    PlacedBut x p (bs.set k (bs.getD p 0)) (plSet pl (bs.getD p 0) k) ∧ ApartBut p (bs.set k (bs.getD p 0)) := by
  constructor
  · intro i hi hip
    rw [List.length_set] at hi
    unfold plSet
    by_cases hik : k = i
    · subst hik
      rw [getD_set_eq hi]
      exact ⟨by simp, (h p hp hne).2⟩
    · rw [getD_set_ne hik]
      obtain ⟨h1, h2⟩ := h i hi (fun e => hik e.symm)
      refine ⟨?_, h2⟩
      rw [if_neg (ha i p hi hp (fun e => hik e.symm) hne hip), h1]
  · intro i j hi hj hip hjp hij
    rw [List.length_set] at hi hj
    by_cases hik : k = i
    · subst hik
      rw [getD_set_eq hi, getD_set_ne hij]
      exact ha p j hp hj hne (fun e => hij e.symm) (fun e => hjp e.symm)
    · by_cases hjk : k = j
      · subst hjk
        rw [getD_set_eq hj, getD_set_ne hik]
        exact ha i p hi hp (fun e => hik e.symm) hne hip
      · rw [getD_set_ne hik, getD_set_ne hjk]
        exact ha i j hi hj (fun e => hik e.symm) (fun e => hjk e.symm) hij
theorem up_placed (tm : Nat → Tm) (x : Nat) : ∀ (f : Nat) (bs : List Nat) (k : Nat) (pl : Nat → Int), k < bs.length → PlacedBut x k bs pl → ApartBut k bs → Placed (upL tm x f bs k) (upP tm x f bs k pl)
  | 0, bs, k, pl, hk, h, ha => placed_set h
  | f + 1, bs, k, pl, hk, h, ha => by
    simp only [upL, upP]
    split
    · rename_i hh
      obtain ⟨h1, h2⟩ := placed_move (p := (k - 1) / 2) hk (by omega) (by omega) h ha
      exact up_placed tm x f _ _ _ (by simp; omega) h1 h2
    · exact placed_set h
theorem down_placed (tm : Nat → Tm) (x : Nat) : ∀ (f : Nat) (bs : List Nat) (k : Nat) (pl : Nat → Int), k < bs.length → PlacedBut x k bs pl → ApartBut k bs → Placed (downL tm x f bs k) (downP tm x f bs k pl)
  | 0, bs, k, pl, hk, h, ha => placed_set h
  | f + 1, bs, k, pl, hk, h, ha => by
    simp only [downL, downP]
    split
    · rename_i hh
      have := kid_gt tm bs k
      obtain ⟨h1, h2⟩ := placed_move (p := kid tm bs k) hk hh.1 (by omega) h ha
      exact down_placed tm x f _ _ _ (by simpa using hh.1) h1 h2
    · exact placed_set h
/-! The order of a heap. -/
def HeapOrd (tm : Nat → Tm) (bs : List Nat) : Prop := ∀ i, 0 < i → i < bs.length → leT (tm (bs.getD ((i - 1) / 2) 0)) (tm (bs.getD i 0))
/-- In order but at the hole k. -/
def OrdBut (tm : Nat → Tm) (bs : List Nat) (k : Nat) : Prop := ∀ i, 0 < i → i < bs.length → i ≠ k → (i - 1) / 2 ≠ k → leT (tm (bs.getD ((i - 1) / 2) 0)) (tm (bs.getD i 0))
/-- What is above the hole is not behind what is beneath it. -/
def OverBut (tm : Nat → Tm) (bs : List Nat) (k : Nat) : Prop := ∀ i, 0 < i → i < bs.length → (i - 1) / 2 = k → 0 < k → leT (tm (bs.getD ((k - 1) / 2) 0)) (tm (bs.getD i 0))
theorem up_ord (tm : Nat → Tm) (x : Nat) : ∀ (f : Nat) (bs : List Nat) (k : Nat), k < bs.length → k ≤ f → OrdBut tm bs k → OverBut tm bs k → (∀ i, 0 < i → i < bs.length → (i - 1) / 2 = k → leT (tm x) (tm (bs.getD i 0))) → HeapOrd tm (upL tm x f bs k) := by
  intro f
  induction f with
  | zero =>
    intro bs k hk hf ho hov hx
    obtain rfl : k = 0 := by omega
    intro i hi hil
    simp only [upL, List.length_set] at hil ⊢
    by_cases hp : (i - 1) / 2 = 0
    · rw [hp, getD_set_eq hk, getD_set_ne (by omega)]
      exact hx i hi hil hp
    · rw [getD_set_ne (fun e => hp e.symm), getD_set_ne (by omega)]
      exact ho i hi hil (by omega) hp
  | succ f ih =>
    intro bs k hk hf ho hov hx
    simp only [upL]
    split
    · rename_i h
      have hkp : (k - 1) / 2 < k := by omega
      have hlt : leT (tm x) (tm (bs.getD ((k - 1) / 2) 0)) := .inl (cmpT_lt.1 h.2)
      refine ih _ _ (by simp; omega) (by omega) ?_ ?_ ?_
      · intro i hi hil hip hpp
        rw [List.length_set] at hil
        have hik : k ≠ i := fun e => by subst e; exact hpp rfl
        rw [getD_set_ne hik]
        by_cases hpk : (i - 1) / 2 = k
        · rw [hpk, getD_set_eq hk]
          exact hov i hi hil hpk h.1
        · rw [getD_set_ne (fun e => hpk e.symm)]
          exact ho i hi hil (fun e => hik e.symm) hpk
      · intro i hi hil hip hp0
        rw [List.length_set] at hil
        rw [getD_set_ne (by omega)]
        have h1 : leT (tm (bs.getD (((k - 1) / 2 - 1) / 2) 0)) (tm (bs.getD ((k - 1) / 2) 0)) := ho _ hp0 (by omega) (by omega) (by omega)
        by_cases hik : k = i
        · subst hik
          rw [getD_set_eq hk]
          exact h1
        · rw [getD_set_ne hik]
          refine leT_trans h1 ?_
          have := ho i hi hil (fun e => hik e.symm) (by omega)
          rwa [hip] at this
      · intro i hi hil hip
        rw [List.length_set] at hil
        by_cases hik : k = i
        · subst hik
          rw [getD_set_eq hk]
          exact hlt
        · rw [getD_set_ne hik]
          refine leT_trans hlt ?_
          have := ho i hi hil (fun e => hik e.symm) (by omega)
          rwa [hip] at this
    · rename_i h
      intro i hi hil
      rw [List.length_set] at hil
      by_cases hik : k = i
      · subst hik
        rw [getD_set_eq hk, getD_set_ne (by omega)]
        exact leT_iff.2 (fun hc => h ⟨hi, hc⟩)
      · rw [getD_set_ne hik]
        by_cases hpk : (i - 1) / 2 = k
        · rw [hpk, getD_set_eq hk]
          exact hx i hi hil hpk
        · rw [getD_set_ne (fun e => hpk e.symm)]
          exact ho i hi hil (fun e => hik e.symm) hpk
theorem kid_least (tm : Nat → Tm) (bs : List Nat) (k : Nat) (i : Nat) (hi : 0 < i) (hil : i < bs.length) (hp : (i - 1) / 2 = k) : kid tm bs k < bs.length ∧ leT (tm (bs.getD (kid tm bs k) 0)) (tm (bs.getD i 0)) := by
  have hcase : i = 2 * k + 1 ∨ i = 2 * k + 2 := by omega
  rcases kid_cases tm bs k with ⟨h, h1, h2⟩ | ⟨h, h1⟩
  · rw [h]
    refine ⟨h1, ?_⟩
    rcases hcase with rfl | rfl
    · exact .inl (cmpT_lt.1 h2)
    · exact leT_refl _
  · rw [h]
    refine ⟨by omega, ?_⟩
    rcases hcase with rfl | rfl
    · exact leT_refl _
    · exact leT_iff.2 (fun hc => h1 ⟨hil, hc⟩)
theorem down_ord (tm : Nat → Tm) (x : Nat) : ∀ (f : Nat) (bs : List Nat) (k : Nat), k < bs.length → bs.length ≤ k + f → OrdBut tm bs k → OverBut tm bs k → (0 < k → leT (tm (bs.getD ((k - 1) / 2) 0)) (tm x)) → HeapOrd tm (downL tm x f bs k) := by
  intro f
  induction f with
  | zero =>
    intro bs k hk hf
    omega
  | succ f ih =>
    intro bs k hk hf ho hov hx
    have hkg := kid_gt tm bs k
    have hkp := kid_par tm bs k
    have hkl := kid_least tm bs k
    simp only [downL]
    generalize kid tm bs k = c at *
    split
    · rename_i h
      have hlt : leT (tm (bs.getD c 0)) (tm x) := .inl (cmpT_lt.1 h.2)
      refine ih _ _ (by simpa using h.1) (by simp; omega) ?_ ?_ ?_
      · intro i hi hil hic hpc
        rw [List.length_set] at hil
        by_cases hik : k = i
        · subst hik
          rw [getD_set_eq hk, getD_set_ne (by omega)]
          exact hov c (by omega) h.1 hkp hi
        · rw [getD_set_ne hik]
          by_cases hpk : (i - 1) / 2 = k
          · rw [hpk, getD_set_eq hk]
            exact (hkl i hi hil hpk).2
          · rw [getD_set_ne (fun e => hpk e.symm)]
            exact ho i hi hil (fun e => hik e.symm) hpk
      · intro i hi hil hic hc0
        rw [List.length_set] at hil
        rw [hkp, getD_set_eq hk, getD_set_ne (by omega)]
        have := ho i hi hil (by omega) (by omega)
        rwa [hic] at this
      · intro _
        rw [hkp, getD_set_eq hk]
        exact hlt
    · rename_i h
      intro i hi hil
      rw [List.length_set] at hil
      by_cases hik : k = i
      · subst hik
        rw [getD_set_eq hk, getD_set_ne (by omega)]
        exact hx hi
      · rw [getD_set_ne hik]
        by_cases hpk : (i - 1) / 2 = k
        · rw [hpk, getD_set_eq hk]
          obtain ⟨h1, h2⟩ := hkl i hi hil hpk
          exact leT_trans (leT_iff.2 (fun hc => h ⟨h1, hc⟩)) h2
        · rw [getD_set_ne (fun e => hpk e.symm)]
          exact ho i hi hil (fun e => hik e.symm) hpk
end Go.Proofs.Ytlmnnbmihimedaa
