/- Plain facts on Merge's answers: the rest stands apart; its points are those of the list and of the window; points tell a list that stands apart. Conditions: as each theorem states them. -/
import Derived.Test.YtfojblbnhapedaaGreatDoorH2
namespace Go.Proofs.YtfojblbnhapedaaGreatDoor
set_option linter.unusedVariables false
set_option linter.unusedSimpArgs false

abbrev Wi := Int × Int
/-- Windows that stand apart: each one may be, each ends ahead of the next ones. -/
def Ap (l : List Wi) : Prop := l.Pairwise (fun a b => a.2 < b.1) ∧ ∀ a ∈ l, mayB a = true
theorem may_lt {a : Wi} (h : mayB a = true) : a.1 < a.2 := by
  simp only [mayB, Bool.and_eq_true, decide_eq_true_eq] at h
  exact h.1.1
theorem meet_iff {y x : Wi} : meetB y x = true ↔ y.1 ≤ x.2 ∧ x.1 ≤ y.2 := by simp [meetB]

/-! ### Apart, as the program asks it -/
theorem apartFrom_true (l : List Wi) : apartFrom l 0 = true ↔ ∀ i, i < l.length → mayB (l.getD i (0, 0)) = true ∧ (0 < i → (l.getD (i - 1) (0, 0)).2 < (l.getD i (0, 0)).1) := by
  unfold apartFrom
  rw [List.all_eq_true]
  constructor
  · intro h i hi
    have := h i (by simp [List.mem_range']; omega)
    simp only [Bool.and_eq_true, Bool.or_eq_true, decide_eq_true_eq] at this
    exact ⟨this.1, fun h0 => this.2.resolve_left (by omega)⟩
  · intro h i hi
    have hi : i < l.length := by simp [List.mem_range'] at hi; omega
    obtain ⟨h1, h2⟩ := h i hi
    simp only [Bool.and_eq_true, Bool.or_eq_true, decide_eq_true_eq]
    refine ⟨h1, ?_⟩
    by_cases h0 : i = 0
    · exact .inl h0
    · exact .inr (h2 (by omega))
theorem getD_eq (l : List Wi) (i : Nat) (h : i < l.length) : l.getD i (0, 0) = l[i] := by
  rw [List.getD_eq_getElem?_getD, List.getElem?_eq_getElem h]; rfl
theorem ap_iff (l : List Wi) : apartFrom l 0 = true ↔ Ap l := by
  rw [apartFrom_true]
  constructor
  · intro h
    have hm : ∀ a ∈ l, mayB a = true := by
      intro a ha
      obtain ⟨i, hi, rfl⟩ := List.mem_iff_getElem.1 ha
      have := (h i hi).1
      rwa [getD_eq l i hi] at this
    refine ⟨?_, hm⟩
    rw [List.pairwise_iff_getElem]
    intro i j hi hj hij
    have hadj : ∀ k (hk : k + 1 < l.length), (l[k]'(by omega)).2 < (l[k + 1]).1 := by
      intro k hk
      have := (h (k + 1) hk).2 (by omega)
      rwa [getD_eq l (k + 1) hk, show k + 1 - 1 = k by omega, getD_eq l k (by omega)] at this
    have hd : ∀ d k (hk : k + d + 1 < l.length), (l[k]'(by omega)).2 < (l[k + d + 1]).1 := by
      intro d
      induction d with
      | zero => intro k hk; exact hadj k hk
      | succ d ih =>
        intro k hk
        have h1 := ih k (by omega)
        have h2 := hadj (k + d + 1) (by omega)
        have h3 := may_lt (hm (l[k + d + 1]'(by omega)) (List.getElem_mem _))
        have e : k + (d + 1) + 1 = k + d + 1 + 1 := by omega
        simp only [e]
        omega
    have := hd (j - i - 1) i (by omega)
    have e : i + (j - i - 1) + 1 = j := by omega
    simp only [e] at this
    exact this
  · intro ⟨hp, hm⟩ i hi
    rw [List.pairwise_iff_getElem] at hp
    rw [getD_eq l i hi]
    refine ⟨hm _ (List.getElem_mem _), fun h0 => ?_⟩
    rw [getD_eq l (i - 1) (by omega)]
    exact hp (i - 1) i (by omega) hi (by omega)
theorem ap_false {l : List Wi} : apartFrom l 0 = false ↔ ¬ Ap l := by
  rw [← ap_iff]; simp

/-! ### one -/
theorem one_fold (x : Wi) : ∀ (l : List Wi) (s : Wi), (l.foldl (oneS x) s).1 ≤ s.1 ∧ s.2 ≤ (l.foldl (oneS x) s).2 ∧ (∀ y ∈ l, meetB y x = true → (l.foldl (oneS x) s).1 ≤ y.1 ∧ y.2 ≤ (l.foldl (oneS x) s).2) ∧
    ((l.foldl (oneS x) s).1 = s.1 ∨ ∃ z ∈ l, meetB z x = true ∧ z.1 = (l.foldl (oneS x) s).1) ∧ ((l.foldl (oneS x) s).2 = s.2 ∨ ∃ z ∈ l, meetB z x = true ∧ z.2 = (l.foldl (oneS x) s).2) := by
  intro l
  induction l with
  | nil => intro s; simp
  | cons y l ih =>
    intro s
    obtain ⟨h1, h2, h3, h4, h5⟩ := ih (oneS x s y)
    have hs : (oneS x s y).1 ≤ s.1 ∧ s.2 ≤ (oneS x s y).2 ∧ (meetB y x = true → (oneS x s y).1 ≤ y.1 ∧ y.2 ≤ (oneS x s y).2) ∧ ((oneS x s y).1 = s.1 ∨ (meetB y x = true ∧ y.1 = (oneS x s y).1)) ∧ ((oneS x s y).2 = s.2 ∨ (meetB y x = true ∧ y.2 = (oneS x s y).2)) := by
      unfold oneS
      by_cases hm : meetB y x = true
      · rw [if_pos hm]
        refine ⟨by simp; omega, by simp; omega, fun _ => ⟨by simp; omega, by simp; omega⟩, ?_, ?_⟩
        · simp only [hm, true_and]; omega
        · simp only [hm, true_and]; omega
      · rw [if_neg hm]
        exact ⟨Int.le_refl _, Int.le_refl _, fun h => absurd h hm, .inl rfl, .inl rfl⟩
    simp only [List.foldl_cons]
    refine ⟨by omega, by omega, ?_, ?_, ?_⟩
    · intro z hz hmz
      rcases List.mem_cons.1 hz with rfl | hz
      · have := hs.2.2.1 hmz; omega
      · exact h3 z hz hmz
    · rcases h4 with h4 | ⟨z, hz, h⟩
      · rcases hs.2.2.2.1 with h | ⟨hm, h⟩
        · exact .inl (h4.trans h)
        · exact .inr ⟨y, List.mem_cons_self, hm, h.trans h4.symm⟩
      · exact .inr ⟨z, List.mem_cons_of_mem _ hz, h⟩
    · rcases h5 with h5 | ⟨z, hz, h⟩
      · rcases hs.2.2.2.2 with h | ⟨hm, h⟩
        · exact .inl (h5.trans h)
        · exact .inr ⟨y, List.mem_cons_self, hm, h.trans h5.symm⟩
      · exact .inr ⟨z, List.mem_cons_of_mem _ hz, h⟩

structure OneOk (x : Wi) (l : List Wi) (o : Wi) : Prop where
  lo : o.1 ≤ x.1
  hi : x.2 ≤ o.2
  all : ∀ y ∈ l, meetB y x = true → o.1 ≤ y.1 ∧ y.2 ≤ o.2
  wlo : o.1 = x.1 ∨ ∃ z ∈ l, meetB z x = true ∧ z.1 = o.1
  whi : o.2 = x.2 ∨ ∃ z ∈ l, meetB z x = true ∧ z.2 = o.2
theorem oneOk (x : Wi) (l : List Wi) : OneOk x l (oneF x l) := by
  obtain ⟨h1, h2, h3, h4, h5⟩ := one_fold x l x
  exact ⟨h1, h2, h3, h4, h5⟩

/-- Of two windows that stand apart one is ahead of the other, or they are one. -/
theorem ap_two {l : List Wi} (h : Ap l) {a b : Wi} (ha : a ∈ l) (hb : b ∈ l) : a = b ∨ a.2 < b.1 ∨ b.2 < a.1 := by
  obtain ⟨hp, _⟩ := h
  rw [List.pairwise_iff_getElem] at hp
  obtain ⟨i, hi, rfl⟩ := List.mem_iff_getElem.1 ha
  obtain ⟨j, hj, rfl⟩ := List.mem_iff_getElem.1 hb
  rcases Nat.lt_trichotomy i j with h | h | h
  · exact .inr (.inl (hp i j hi hj h))
  · subst h; exact .inl rfl
  · exact .inr (.inr (hp j i hj hi h))

/-- What does not meet x is ahead of what becomes of it, or behind it. -/
theorem not_met {x : Wi} {l : List Wi} (h : Ap l) (hx : mayB x = true) {y : Wi} (hy : y ∈ l) : meetB y x = false ↔ y.1 < (oneF x l).1 ∨ (oneF x l).2 < y.1 := by
  have ho := oneOk x l
  have hxl := may_lt hx
  have hyl := may_lt (h.2 y hy)
  generalize oneF x l = o at *
  constructor
  · intro hm
    have hm' : ¬ (y.1 ≤ x.2 ∧ x.1 ≤ y.2) := fun hc => by rw [meet_iff.2 hc] at hm; cases hm
    have h1 := ho.lo
    have h2 := ho.hi
    by_cases hc : y.1 ≤ x.2
    · have hc2 : y.2 < x.1 := by
        refine Int.not_le.1 fun h => hm' ⟨hc, h⟩
      left
      rcases ho.wlo with hw | ⟨z, hz, hzm, hzo⟩
      · omega
      · rw [meet_iff] at hzm
        have hzl := may_lt (h.2 z hz)
        rcases ap_two h hy hz with rfl | h3 | h3
        · omega
        · omega
        · omega
    · right
      rcases ho.whi with hw | ⟨z, hz, hzm, hzo⟩
      · omega
      · rw [meet_iff] at hzm
        have hzl := may_lt (h.2 z hz)
        rcases ap_two h hy hz with rfl | h3 | h3
        · omega
        · omega
        · omega
  · intro hc
    cases hm : meetB y x
    · rfl
    · have := ho.all y hy hm
      omega

/-! ### rest -/
theorem rest_put (o : Wi) : ∀ (l : List Wi) (acc : List Wi), (∀ y ∈ l, ¬ y.1 < o.1) → l.foldl (restS o) (acc, true) = (acc ++ l.filter (fun y => decide (o.2 < y.1)), true) := by
  intro l
  induction l with
  | nil => intro acc _; simp
  | cons y l ih =>
    intro acc h
    have hy := h y List.mem_cons_self
    simp only [List.foldl_cons]
    by_cases h2 : o.2 < y.1
    · have : restS o (acc, true) y = (acc ++ [y], true) := by simp [restS, hy, h2]
      rw [this, ih _ (fun z hz => h z (List.mem_cons_of_mem _ hz)), List.filter_cons_of_pos (by simpa using h2)]
      simp
    · have : restS o (acc, true) y = (acc, true) := by simp [restS, hy, h2]
      rw [this, ih _ (fun z hz => h z (List.mem_cons_of_mem _ hz)), List.filter_cons_of_neg (by simpa using h2)]
def finR (o : Wi) (r : List Wi × Bool) : List Wi := bif r.2 then r.1 else r.1 ++ [o]
theorem rest_not (o : Wi) (ho : o.1 ≤ o.2) : ∀ (l : List Wi) (acc : List Wi), l.Pairwise (fun a b => a.2 < b.1) → (∀ a ∈ l, a.1 < a.2) →
    finR o (l.foldl (restS o) (acc, false)) = acc ++ (l.filter (fun y => decide (y.1 < o.1)) ++ o :: l.filter (fun y => decide (o.2 < y.1))) := by
  intro l
  induction l with
  | nil => intro acc _ _; simp [finR]
  | cons y l ih =>
    intro acc hp hm
    rw [List.pairwise_cons] at hp
    have hy := hm y List.mem_cons_self
    simp only [List.foldl_cons]
    by_cases h1 : y.1 < o.1
    · have h2 : ¬ o.2 < y.1 := by omega
      have h3 : ¬ o.1 ≤ y.1 := by omega
      have : restS o (acc, false) y = (acc ++ [y], false) := by simp [restS, h1, h3]
      rw [this]
      have := ih (acc ++ [y]) hp.2 (fun z hz => hm z (List.mem_cons_of_mem _ hz))
      rw [this, List.filter_cons_of_pos (by simpa using h1), List.filter_cons_of_neg (by simpa using h2)]
      simp
    · have h3 : o.1 ≤ y.1 := by omega
      have hl : ∀ z ∈ l, ¬ z.1 < o.1 := fun z hz => by have := hp.1 z hz; omega
      have hf : l.filter (fun y => decide (y.1 < o.1)) = [] := List.filter_eq_nil_iff.2 (fun z hz => by simpa using hl z hz)
      by_cases h2 : o.2 < y.1
      · have : restS o (acc, false) y = (acc ++ [o] ++ [y], true) := by simp [restS, h1, h2, h3]
        rw [this, rest_put o l _ hl, List.filter_cons_of_neg (by simpa using h1), hf, List.filter_cons_of_pos (by simpa using h2)]
        simp [finR]
      · have : restS o (acc, false) y = (acc ++ [o], true) := by simp [restS, h1, h2, h3]
        rw [this, rest_put o l _ hl, List.filter_cons_of_neg (by simpa using h1), hf, List.filter_cons_of_neg (by simpa using h2)]
        simp [finR]
theorem restL_fin (o : Wi) (l : List Wi) : restL o l = finR o (restF o l) := by
  unfold restL finR
  cases (restF o l).2 <;> rfl
theorem restL_eq {x : Wi} {l : List Wi} (h : Ap l) (hx : mayB x = true) : restL (oneF x l) l = l.filter (fun y => decide (y.1 < (oneF x l).1)) ++ oneF x l :: l.filter (fun y => decide ((oneF x l).2 < y.1)) := by
  have ho := oneOk x l
  have := rest_not (oneF x l) (by have := ho.lo; have := ho.hi; have := may_lt hx; omega) l [] h.1 (fun a ha => may_lt (h.2 a ha))
  rw [restL_fin, restF, this]
  rfl
end Go.Proofs.YtfojblbnhapedaaGreatDoor
namespace Go.Proofs.YtfojblbnhapedaaGreatDoor
set_option linter.unusedVariables false
set_option linter.unusedSimpArgs false

theorem may_bd {a : Wi} : mayB a = true ↔ a.1 < a.2 ∧ -2251799813685248 ≤ a.1 ∧ a.2 ≤ 2251799813685248 := by
  simp only [mayB, Bool.and_eq_true, decide_eq_true_eq, and_assoc]
theorem one_may {x : Wi} {l : List Wi} (h : Ap l) (hx : mayB x = true) : mayB (oneF x l) = true := by
  have ho := oneOk x l
  rw [may_bd] at hx ⊢
  generalize oneF x l = o at *
  have h1 := ho.lo
  have h2 := ho.hi
  refine ⟨by omega, ?_, ?_⟩
  · rcases ho.wlo with hw | ⟨z, hz, _, hzo⟩
    · omega
    · have := may_bd.1 (h.2 z hz); omega
  · rcases ho.whi with hw | ⟨z, hz, _, hzo⟩
    · omega
    · have := may_bd.1 (h.2 z hz); omega
/-- A window ahead of what becomes of x ends ahead of it. -/
theorem low_end {x : Wi} {l : List Wi} (h : Ap l) (hx : mayB x = true) {a : Wi} (ha : a ∈ l) (hlo : a.1 < (oneF x l).1) : a.2 < (oneF x l).1 := by
  have hn := (not_met h hx ha).2 (.inl hlo)
  have ho := oneOk x l
  have hxl := may_lt hx
  have hm' : ¬ (a.1 ≤ x.2 ∧ x.1 ≤ a.2) := fun hc => by rw [meet_iff.2 hc] at hn; cases hn
  generalize oneF x l = o at *
  have h1 := ho.lo
  rcases ho.wlo with hw | ⟨z, hz, hzm, hzo⟩
  · rw [hw] at hlo ⊢
    exact Int.not_le.1 fun hc => hm' ⟨by omega, hc⟩
  · have hzl := may_lt (h.2 z hz)
    rcases ap_two h ha hz with rfl | h3 | h3
    · omega
    · omega
    · have := may_lt (h.2 a ha); omega

theorem rest_ap {x : Wi} {l : List Wi} (h : Ap l) (hx : mayB x = true) : Ap (restL (oneF x l) l) := by
  rw [restL_eq h hx]
  have hol := may_lt (one_may h hx)
  refine ⟨?_, ?_⟩
  · rw [List.pairwise_append]
    refine ⟨h.1.sublist List.filter_sublist, ?_, ?_⟩
    · rw [List.pairwise_cons]
      refine ⟨fun b hb => ?_, h.1.sublist List.filter_sublist⟩
      simpa using (List.mem_filter.1 hb).2
    · intro a ha b hb
      obtain ⟨hal, ha1⟩ := List.mem_filter.1 ha
      have ha1 : a.1 < (oneF x l).1 := by simpa using ha1
      rcases List.mem_cons.1 hb with rfl | hb
      · exact low_end h hx hal ha1
      · obtain ⟨hbl, hb1⟩ := List.mem_filter.1 hb
        have hb1 : (oneF x l).2 < b.1 := by simpa using hb1
        have := low_end h hx hal ha1
        omega
  · intro a ha
    rw [List.mem_append, List.mem_cons] at ha
    rcases ha with ha | rfl | ha
    · exact h.2 a (List.mem_filter.1 ha).1
    · exact one_may h hx
    · exact h.2 a (List.mem_filter.1 ha).1

/-- The points of windows, in halves: a window has its two ends. -/
def Pt (l : List Wi) (p : Int) : Prop := ∃ a ∈ l, 2 * a.1 ≤ p ∧ p ≤ 2 * a.2
theorem rest_pt {x : Wi} {l : List Wi} (h : Ap l) (hx : mayB x = true) (p : Int) : Pt (restL (oneF x l) l) p ↔ Pt l p ∨ (2 * x.1 ≤ p ∧ p ≤ 2 * x.2) := by
  rw [restL_eq h hx]
  have ho := oneOk x l
  have h1 := ho.lo
  have h2 := ho.hi
  constructor
  · rintro ⟨a, ha, hp⟩
    rw [List.mem_append, List.mem_cons] at ha
    rcases ha with ha | rfl | ha
    · exact .inl ⟨a, (List.mem_filter.1 ha).1, hp⟩
    · by_cases hpx : 2 * x.1 ≤ p
      · by_cases hpx2 : p ≤ 2 * x.2
        · exact .inr ⟨hpx, hpx2⟩
        · rcases ho.whi with hw | ⟨z, hz, hzm, hzo⟩
          · omega
          · rw [meet_iff] at hzm
            exact .inl ⟨z, hz, by omega, by omega⟩
      · rcases ho.wlo with hw | ⟨z, hz, hzm, hzo⟩
        · omega
        · rw [meet_iff] at hzm
          exact .inl ⟨z, hz, by omega, by omega⟩
    · exact .inl ⟨a, (List.mem_filter.1 ha).1, hp⟩
  · rintro (⟨a, ha, hp⟩ | hp)
    · cases hm : meetB a x
      · rcases (not_met h hx ha).1 hm with hc | hc
        · exact ⟨a, List.mem_append.2 (.inl (List.mem_filter.2 ⟨ha, by simpa using hc⟩)), hp⟩
        · exact ⟨a, List.mem_append.2 (.inr (List.mem_cons_of_mem _ (List.mem_filter.2 ⟨ha, by simpa using hc⟩))), hp⟩
      · have := ho.all a ha hm
        exact ⟨_, List.mem_append.2 (.inr List.mem_cons_self), by omega, by omega⟩
    · exact ⟨_, List.mem_append.2 (.inr List.mem_cons_self), by omega, by omega⟩

theorem ap_tail {u : Wi} {a : List Wi} (h : Ap (u :: a)) : Ap a := ⟨(List.pairwise_cons.1 h.1).2, fun x hx => h.2 x (List.mem_cons_of_mem _ hx)⟩
theorem ap_head {u : Wi} {a : List Wi} (h : Ap (u :: a)) : ∀ w ∈ a, u.2 < w.1 := (List.pairwise_cons.1 h.1).1
theorem pt_uniq : ∀ (a b : List Wi), Ap a → Ap b → (∀ p, Pt a p ↔ Pt b p) → a = b := by
  have low : ∀ (u v : Wi) (a b : List Wi), Ap (u :: a) → Ap (v :: b) → (∀ p, Pt (u :: a) p → Pt (v :: b) p) → v.1 ≤ u.1 := by
    intro u v a b ha hb h
    have hu := may_lt (ha.2 u List.mem_cons_self)
    have hv := may_lt (hb.2 v List.mem_cons_self)
    obtain ⟨w, hw, h1, _⟩ := h (2 * u.1) ⟨u, List.mem_cons_self, by omega, by omega⟩
    rcases List.mem_cons.1 hw with rfl | hw
    · omega
    · have := ap_head hb w hw; omega
  have high : ∀ (u v : Wi) (a b : List Wi), Ap (u :: a) → Ap (v :: b) → u.1 = v.1 → (∀ p, Pt (u :: a) p → Pt (v :: b) p) → u.2 ≤ v.2 := by
    intro u v a b ha hb he h
    have hu := may_lt (ha.2 u List.mem_cons_self)
    have hv := may_lt (hb.2 v List.mem_cons_self)
    refine Int.not_lt.1 fun hlt => ?_
    obtain ⟨w, hw, h1, h2⟩ := h (2 * v.2 + 1) ⟨u, List.mem_cons_self, by omega, by omega⟩
    rcases List.mem_cons.1 hw with rfl | hw
    · omega
    · have := ap_head hb w hw; omega
  have tail : ∀ (u : Wi) (a b : List Wi), Ap (u :: a) → Ap (u :: b) → (∀ p, Pt (u :: a) p → Pt (u :: b) p) → ∀ p, Pt a p → Pt b p := by
    intro u a b ha hb h p ⟨w, hw, h1, h2⟩
    have := ap_head ha w hw
    obtain ⟨z, hz, h3, h4⟩ := h p ⟨w, List.mem_cons_of_mem _ hw, h1, h2⟩
    rcases List.mem_cons.1 hz with rfl | hz
    · omega
    · exact ⟨z, hz, h3, h4⟩
  intro a
  induction a with
  | nil =>
    intro b _ hb h
    cases b with
    | nil => rfl
    | cons v b =>
      have hv := may_lt (hb.2 v List.mem_cons_self)
      obtain ⟨w, hw, _⟩ := (h (2 * v.1)).2 ⟨v, List.mem_cons_self, by omega, by omega⟩
      cases hw
  | cons u a ih =>
    intro b ha hb h
    cases b with
    | nil =>
      have hu := may_lt (ha.2 u List.mem_cons_self)
      obtain ⟨w, hw, _⟩ := (h (2 * u.1)).1 ⟨u, List.mem_cons_self, by omega, by omega⟩
      cases hw
    | cons v b =>
      have e1 : u.1 = v.1 := Int.le_antisymm (low v u b a hb ha fun p => (h p).2) (low u v a b ha hb fun p => (h p).1)
      have e2 : u.2 = v.2 := Int.le_antisymm (high u v a b ha hb e1 fun p => (h p).1) (high v u b a hb ha e1.symm fun p => (h p).2)
      have e : u = v := Prod.ext e1 e2
      subst e
      rw [ih b (ap_tail ha) (ap_tail hb) fun p => ⟨tail u a b ha hb (fun p => (h p).1) p, tail u b a hb ha (fun p => (h p).2) p⟩]
end Go.Proofs.YtfojblbnhapedaaGreatDoor
