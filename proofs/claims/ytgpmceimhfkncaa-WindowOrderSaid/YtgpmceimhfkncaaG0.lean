/- Plain facts on Merge's answers: what one, gone and rest are, that the rest stands apart, which points it has, and that these points tell it. Conditions: as each theorem states them. -/
import Derived.Test.YtgpmceimhfkncaaB2
namespace Go.Proofs.Ytgpmceimhfkncaa
set_option linter.unusedVariables false
set_option linter.unusedSimpArgs false

abbrev Wi := Int × Int
/-- Windows that stand apart: each one may be, each ends ahead of the next ones. -/
def Ap (l : List Wi) : Prop := l.Pairwise (fun a b => a.2 < b.1) ∧ ∀ a ∈ l, mayB a = true
theorem may_lt {a : Wi} (h : mayB a = true) : a.1 < a.2 := by
  simp only [mayB, Bool.and_eq_true, decide_eq_true_eq] at h
  exact h.1.1
theorem meet_iff {y x : Wi} : meetB y x = true ↔ y.1 ≤ x.2 ∧ x.1 ≤ y.2 := by simp [meetB]

/-! ### Apart, as the program asks it -/
theorem apartFrom_true (l : List Wi) : apartFrom l 0 = true ↔ ∀ i, i < l.length → mayB (l.getD i (0, 0)) = true ∧ (0 < i → (l.getD (i - 1) (0, 0)).2 < (l.getD i (0, 0)).1) := by
  unfold apartFrom
  rw [List.all_eq_true]
  constructor
  · intro h i hi
    have := h i (by simp [List.mem_range']; omega)
    simp only [Bool.and_eq_true, Bool.or_eq_true, decide_eq_true_eq] at this
    exact ⟨this.1, fun h0 => this.2.resolve_left (by omega)⟩
  · intro h i hi
    have hi : i < l.length := by simp [List.mem_range'] at hi; omega
    obtain ⟨h1, h2⟩ := h i hi
    simp only [Bool.and_eq_true, Bool.or_eq_true, decide_eq_true_eq]
    refine ⟨h1, ?_⟩
    by_cases h0 : i = 0
    · exact .inl h0
    · exact .inr (h2 (by omega))
theorem getD_eq (l : List Wi) (i : Nat) (h : i < l.length) : l.getD i (0, 0) = l[i] := by
  rw [List.getD_eq_getElem?_getD, List.getElem?_eq_getElem h]; rfl
theorem ap_iff (l : List Wi) : apartFrom l 0 = true ↔ Ap l := by
  rw [apartFrom_true]
  constructor
  · intro h
    have hm : ∀ a ∈ l, mayB a = true := by
      intro a ha
      obtain ⟨i, hi, rfl⟩ := List.mem_iff_getElem.1 ha
      have := (h i hi).1
      rwa [getD_eq l i hi] at this
    refine ⟨?_, hm⟩
    rw [List.pairwise_iff_getElem]
    intro i j hi hj hij
    have hadj : ∀ k (hk : k + 1 < l.length), (l[k]'(by omega)).2 < (l[k + 1]).1 := by
      intro k hk
      have := (h (k + 1) hk).2 (by omega)
      rwa [getD_eq l (k + 1) hk, show k + 1 - 1 = k by omega, getD_eq l k (by omega)] at this
    have hd : ∀ d k (hk : k + d + 1 < l.length), (l[k]'(by omega)).2 < (l[k + d + 1]).1 := by
      intro d
      induction d with
      | zero => intro k hk; exact hadj k hk
      | succ d ih =>
        intro k hk
        have h1 := ih k (by omega)
        have h2 := hadj (k + d + 1) (by omega)
        have h3 := may_lt (hm (l[k + d + 1]'(by omega)) (List.getElem_mem _))
        have e : k + (d + 1) + 1 = k + d + 1 + 1 := by omega
        simp only [e]
        omega
    have := hd (j - i - 1) i (by omega)
    have e : i + (j - i - 1) + 1 = j := by omega
    simp only [e] at this
    exact this
  · intro ⟨hp, hm⟩ i hi
    rw [List.pairwise_iff_getElem] at hp
    rw [getD_eq l i hi]
    refine ⟨hm _ (List.getElem_mem _), fun h0 => ?_⟩
    rw [getD_eq l (i - 1) (by omega)]
    exact hp (i - 1) i (by omega) hi (by omega)
theorem ap_false {l : List Wi} : apartFrom l 0 = false ↔ ¬ Ap l := by
  rw [← ap_iff]; simp

/-! ### one -/
theorem one_fold (x : Wi) : ∀ (l : List Wi) (s : Wi), (l.foldl (oneS x) s).1 ≤ s.1 ∧ s.2 ≤ (l.foldl (oneS x) s).2 ∧ (∀ y ∈ l, meetB y x = true → (l.foldl (oneS x) s).1 ≤ y.1 ∧ y.2 ≤ (l.foldl (oneS x) s).2) ∧
    ((l.foldl (oneS x) s).1 = s.1 ∨ ∃ z ∈ l, meetB z x = true ∧ z.1 = (l.foldl (oneS x) s).1) ∧ ((l.foldl (oneS x) s).2 = s.2 ∨ ∃ z ∈ l, meetB z x = true ∧ z.2 = (l.foldl (oneS x) s).2) := by
  intro l
  induction l with
  | nil => intro s; simp
  | cons y l ih =>
    intro s
    obtain ⟨h1, h2, h3, h4, h5⟩ := ih (oneS x s y)
    have hs : (oneS x s y).1 ≤ s.1 ∧ s.2 ≤ (oneS x s y).2 ∧ (meetB y x = true → (oneS x s y).1 ≤ y.1 ∧ y.2 ≤ (oneS x s y).2) ∧ ((oneS x s y).1 = s.1 ∨ (meetB y x = true ∧ y.1 = (oneS x s y).1)) ∧ ((oneS x s y).2 = s.2 ∨ (meetB y x = true ∧ y.2 = (oneS x s y).2)) := by
      unfold oneS
      by_cases hm : meetB y x = true
      · rw [if_pos hm]
        refine ⟨by simp; omega, by simp; omega, fun _ => ⟨by simp; omega, by simp; omega⟩, ?_, ?_⟩
        · simp only [hm, true_and]; omega
        · simp only [hm, true_and]; omega
      · rw [if_neg hm]
        exact ⟨Int.le_refl _, Int.le_refl _, fun h => absurd h hm, .inl rfl, .inl rfl⟩
    simp only [List.foldl_cons]
    refine ⟨by omega, by omega, ?_, ?_, ?_⟩
    · intro z hz hmz
      rcases List.mem_cons.1 hz with rfl | hz
      · have := hs.2.2.1 hmz; omega
      · exact h3 z hz hmz
    · rcases h4 with h4 | ⟨z, hz, h⟩
      · rcases hs.2.2.2.1 with h | ⟨hm, h⟩
        · exact .inl (h4.trans h)
        · exact .inr ⟨y, List.mem_cons_self, hm, h.trans h4.symm⟩
      · exact .inr ⟨z, List.mem_cons_of_mem _ hz, h⟩
    · rcases h5 with h5 | ⟨z, hz, h⟩
      · rcases hs.2.2.2.2 with h | ⟨hm, h⟩
        · exact .inl (h5.trans h)
        · exact .inr ⟨y, List.mem_cons_self, hm, h.trans h5.symm⟩
      · exact .inr ⟨z, List.mem_cons_of_mem _ hz, h⟩

structure OneOk (x : Wi) (l : List Wi) (o : Wi) : Prop where
  lo : o.1 ≤ x.1
  hi : x.2 ≤ o.2
  all : ∀ y ∈ l, meetB y x = true → o.1 ≤ y.1 ∧ y.2 ≤ o.2
  wlo : o.1 = x.1 ∨ ∃ z ∈ l, meetB z x = true ∧ z.1 = o.1
  whi : o.2 = x.2 ∨ ∃ z ∈ l, meetB z x = true ∧ z.2 = o.2
theorem oneOk (x : Wi) (l : List Wi) : OneOk x l (oneF x l) := by
  obtain ⟨h1, h2, h3, h4, h5⟩ := one_fold x l x
  exact ⟨h1, h2, h3, h4, h5⟩

/-- Of two windows that stand apart one is ahead of the other, or they are one. -/
theorem ap_two {l : List Wi} (h : Ap l) {a b : Wi} (ha : a ∈ l) (hb : b ∈ l) : a = b ∨ a.2 < b.1 ∨ b.2 < a.1 := by
  obtain ⟨hp, _⟩ := h
  rw [List.pairwise_iff_getElem] at hp
  obtain ⟨i, hi, rfl⟩ := List.mem_iff_getElem.1 ha
  obtain ⟨j, hj, rfl⟩ := List.mem_iff_getElem.1 hb
  rcases Nat.lt_trichotomy i j with h | h | h
  · exact .inr (.inl (hp i j hi hj h))
  · subst h; exact .inl rfl
  · exact .inr (.inr (hp j i hj hi h))

/-- What does not meet x is ahead of what becomes of it, or behind it. -/
theorem not_met {x : Wi} {l : List Wi} (h : Ap l) (hx : mayB x = true) {y : Wi} (hy : y ∈ l) : meetB y x = false ↔ y.1 < (oneF x l).1 ∨ (oneF x l).2 < y.1 := by
  have ho := oneOk x l
  have hxl := may_lt hx
  have hyl := may_lt (h.2 y hy)
  generalize oneF x l = o at *
  constructor
  · intro hm
    have hm' : ¬ (y.1 ≤ x.2 ∧ x.1 ≤ y.2) := fun hc => by rw [meet_iff.2 hc] at hm; cases hm
    have h1 := ho.lo
    have h2 := ho.hi
    by_cases hc : y.1 ≤ x.2
    · have hc2 : y.2 < x.1 := by
        refine Int.not_le.1 fun h => hm' ⟨hc, h⟩
      left
      rcases ho.wlo with hw | ⟨z, hz, hzm, hzo⟩
      · omega
      · rw [meet_iff] at hzm
        have hzl := may_lt (h.2 z hz)
        rcases ap_two h hy hz with rfl | h3 | h3
        · omega
        · omega
        · omega
    · right
      rcases ho.whi with hw | ⟨z, hz, hzm, hzo⟩
      · omega
      · rw [meet_iff] at hzm
        have hzl := may_lt (h.2 z hz)
        rcases ap_two h hy hz with rfl | h3 | h3
        · omega
        · omega
        · omega
  · intro hc
    cases hm : meetB y x
    · rfl
    · have := ho.all y hy hm
      omega

/-! ### rest -/
theorem rest_put (o : Wi) : ∀ (l : List Wi) (acc : List Wi), (∀ y ∈ l, ¬ y.1 < o.1) → l.foldl (restS o) (acc, true) = (acc ++ l.filter (fun y => decide (o.2 < y.1)), true) := by
  intro l
  induction l with
  | nil => intro acc _; simp
  | cons y l ih =>
    intro acc h
    have hy := h y List.mem_cons_self
    simp only [List.foldl_cons]
    by_cases h2 : o.2 < y.1
    · have : restS o (acc, true) y = (acc ++ [y], true) := by simp [restS, hy, h2]
      rw [this, ih _ (fun z hz => h z (List.mem_cons_of_mem _ hz)), List.filter_cons_of_pos (by simpa using h2)]
      simp
    · have : restS o (acc, true) y = (acc, true) := by simp [restS, hy, h2]
      rw [this, ih _ (fun z hz => h z (List.mem_cons_of_mem _ hz)), List.filter_cons_of_neg (by simpa using h2)]
def finR (o : Wi) (r : List Wi × Bool) : List Wi := bif r.2 then r.1 else r.1 ++ [o]
theorem rest_not (o : Wi) (ho : o.1 ≤ o.2) : ∀ (l : List Wi) (acc : List Wi), l.Pairwise (fun a b => a.2 < b.1) → (∀ a ∈ l, a.1 < a.2) →
    finR o (l.foldl (restS o) (acc, false)) = acc ++ (l.filter (fun y => decide (y.1 < o.1)) ++ o :: l.filter (fun y => decide (o.2 < y.1))) := by
  intro l
  induction l with
  | nil => intro acc _ _; simp [finR]
  | cons y l ih =>
    intro acc hp hm
    rw [List.pairwise_cons] at hp
    have hy := hm y List.mem_cons_self
    simp only [List.foldl_cons]
    by_cases h1 : y.1 < o.1
    · have h2 : ¬ o.2 < y.1 := by omega
      have h3 : ¬ o.1 ≤ y.1 := by omega
      have : restS o (acc, false) y = (acc ++ [y], false) := by simp [restS, h1, h3]
      rw [this]
      have := ih (acc ++ [y]) hp.2 (fun z hz => hm z (List.mem_cons_of_mem _ hz))
      rw [this, List.filter_cons_of_pos (by simpa using h1), List.filter_cons_of_neg (by simpa using h2)]
      simp
    · have h3 : o.1 ≤ y.1 := by omega
      have hl : ∀ z ∈ l, ¬ z.1 < o.1 := fun z hz => by have := hp.1 z hz; omega
      have hf : l.filter (fun y => decide (y.1 < o.1)) = [] := List.filter_eq_nil_iff.2 (fun z hz => by simpa using hl z hz)
      by_cases h2 : o.2 < y.1
      · have : restS o (acc, false) y = (acc ++ [o] ++ [y], true) := by simp [restS, h1, h2, h3]
        rw [this, rest_put o l _ hl, List.filter_cons_of_neg (by simpa using h1), hf, List.filter_cons_of_pos (by simpa using h2)]
        simp [finR]
      · have : restS o (acc, false) y = (acc ++ [o], true) := by simp [restS, h1, h2, h3]
        rw [this, rest_put o l _ hl, List.filter_cons_of_neg (by simpa using h1), hf, List.filter_cons_of_neg (by simpa using h2)]
        simp [finR]
theorem restL_fin (o : Wi) (l : List Wi) : restL o l = finR o (restF o l) := by
  unfold restL finR
  cases (restF o l).2 <;> rfl
theorem restL_eq {x : Wi} {l : List Wi} (h : Ap l) (hx : mayB x = true) : restL (oneF x l) l = l.filter (fun y => decide (y.1 < (oneF x l).1)) ++ oneF x l :: l.filter (fun y => decide ((oneF x l).2 < y.1)) := by
  have ho := oneOk x l
  have := rest_not (oneF x l) (by have := ho.lo; have := ho.hi; have := may_lt hx; omega) l [] h.1 (fun a ha => may_lt (h.2 a ha))
  rw [restL_fin, restF, this]
  rfl
end Go.Proofs.Ytgpmceimhfkncaa
