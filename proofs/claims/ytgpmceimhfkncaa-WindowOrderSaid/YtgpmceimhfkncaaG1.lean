/- Plain facts on Merge's answers: the rest stands apart; its points are those of the list and of the window; points tell a list that stands apart. Conditions: as each theorem states them. -/
import Derived.Test.YtgpmceimhfkncaaG0
namespace Go.Proofs.Ytgpmceimhfkncaa
set_option linter.unusedVariables false
set_option linter.unusedSimpArgs false

theorem may_bd {a : Wi} : mayB a = true ↔ a.1 < a.2 ∧ -2251799813685248 ≤ a.1 ∧ a.2 ≤ 2251799813685248 := by
  simp only [mayB, Bool.and_eq_true, decide_eq_true_eq, and_assoc]
theorem one_may {x : Wi} {l : List Wi} (h : Ap l) (hx : mayB x = true) : mayB (oneF x l) = true := by
  have ho := oneOk x l
  rw [may_bd] at hx ⊢
  generalize oneF x l = o at *
  have h1 := ho.lo
  have h2 := ho.hi
  refine ⟨by omega, ?_, ?_⟩
  · rcases ho.wlo with hw | ⟨z, hz, _, hzo⟩
    · omega
    · have := may_bd.1 (h.2 z hz); omega
  · rcases ho.whi with hw | ⟨z, hz, _, hzo⟩
    · omega
    · have := may_bd.1 (h.2 z hz); omega
/-- A window ahead of what becomes of x ends ahead of it. -/
theorem low_end {x : Wi} {l : List Wi} (h : Ap l) (hx : mayB x = true) {a : Wi} (ha : a ∈ l) (hlo : a.1 < (oneF x l).1) : a.2 < (oneF x l).1 := by
  have hn := (not_met h hx ha).2 (.inl hlo)
  have ho := oneOk x l
  have hxl := may_lt hx
  have hm' : ¬ (a.1 ≤ x.2 ∧ x.1 ≤ a.2) := fun hc => by rw [meet_iff.2 hc] at hn; cases hn
  generalize oneF x l = o at *
  have h1 := ho.lo
  rcases ho.wlo with hw | ⟨z, hz, hzm, hzo⟩
  · rw [hw] at hlo ⊢
    exact Int.not_le.1 fun hc => hm' ⟨by omega, hc⟩
  · have hzl := may_lt (h.2 z hz)
    rcases ap_two h ha hz with rfl | h3 | h3
    · omega
    · omega
    · have := may_lt (h.2 a ha); omega

theorem rest_ap {x : Wi} {l : List Wi} (h : Ap l) (hx : mayB x = true) : Ap (restL (oneF x l) l) := by
  rw [restL_eq h hx]
  have hol := may_lt (one_may h hx)
  refine ⟨?_, ?_⟩
  · rw [List.pairwise_append]
    refine ⟨h.1.sublist List.filter_sublist, ?_, ?_⟩
    · rw [List.pairwise_cons]
      refine ⟨fun b hb => ?_, h.1.sublist List.filter_sublist⟩
      simpa using (List.mem_filter.1 hb).2
    · intro a ha b hb
      obtain ⟨hal, ha1⟩ := List.mem_filter.1 ha
      have ha1 : a.1 < (oneF x l).1 := by simpa using ha1
      rcases List.mem_cons.1 hb with rfl | hb
      · exact low_end h hx hal ha1
      · obtain ⟨hbl, hb1⟩ := List.mem_filter.1 hb
        have hb1 : (oneF x l).2 < b.1 := by simpa using hb1
        have := low_end h hx hal ha1
        omega
  · intro a ha
    rw [List.mem_append, List.mem_cons] at ha
    rcases ha with ha | rfl | ha
    · exact h.2 a (List.mem_filter.1 ha).1
    · exact one_may h hx
    · exact h.2 a (List.mem_filter.1 ha).1

/-- The points of windows, in halves: a window has its two ends. -/
def Pt (l : List Wi) (p : Int) : Prop := ∃ a ∈ l, 2 * a.1 ≤ p ∧ p ≤ 2 * a.2
theorem rest_pt {x : Wi} {l : List Wi} (h : Ap l) (hx : mayB x = true) (p : Int) : Pt (restL (oneF x l) l) p ↔ Pt l p ∨ (2 * x.1 ≤ p ∧ p ≤ 2 * x.2) := by
  rw [restL_eq h hx]
  have ho := oneOk x l
  have h1 := ho.lo
  have h2 := ho.hi
  constructor
  · rintro ⟨a, ha, hp⟩
    rw [List.mem_append, List.mem_cons] at ha
    rcases ha with ha | rfl | ha
    · exact .inl ⟨a, (List.mem_filter.1 ha).1, hp⟩
    · by_cases hpx : 2 * x.1 ≤ p
      · by_cases hpx2 : p ≤ 2 * x.2
        · exact .inr ⟨hpx, hpx2⟩
        · rcases ho.whi with hw | ⟨z, hz, hzm, hzo⟩
          · omega
          · rw [meet_iff] at hzm
            exact .inl ⟨z, hz, by omega, by omega⟩
      · rcases ho.wlo with hw | ⟨z, hz, hzm, hzo⟩
        · omega
        · rw [meet_iff] at hzm
          exact .inl ⟨z, hz, by omega, by omega⟩
    · exact .inl ⟨a, (List.mem_filter.1 ha).1, hp⟩
  · rintro (⟨a, ha, hp⟩ | hp)
    · cases hm : meetB a x
      · rcases (not_met h hx ha).1 hm with hc | hc
        · exact ⟨a, List.mem_append.2 (.inl (List.mem_filter.2 ⟨ha, by simpa using hc⟩)), hp⟩
        · exact ⟨a, List.mem_append.2 (.inr (List.mem_cons_of_mem _ (List.mem_filter.2 ⟨ha, by simpa using hc⟩))), hp⟩
      · have := ho.all a ha hm
        exact ⟨_, List.mem_append.2 (.inr List.mem_cons_self), by omega, by omega⟩
    · exact ⟨_, List.mem_append.2 (.inr List.mem_cons_self), by omega, by omega⟩

theorem ap_tail {u : Wi} {a : List Wi} (h : Ap (u :: a)) : Ap a := ⟨(List.pairwise_cons.1 h.1).2, fun x hx => h.2 x (List.mem_cons_of_mem _ hx)⟩
theorem ap_head {u : Wi} {a : List Wi} (h : Ap (u :: a)) : ∀ w ∈ a, u.2 < w.1 := (List.pairwise_cons.1 h.1).1
theorem pt_uniq : ∀ (a b : List Wi), Ap a → Ap b → (∀ p, Pt a p ↔ Pt b p) → a = b := by
  have low : ∀ (u v : Wi) (a b : List Wi), Ap (u :: a) → Ap (v :: b) → (∀ p, Pt (u :: a) p → Pt (v :: b) p) → v.1 ≤ u.1 := by
    intro u v a b ha hb h
    have hu := may_lt (ha.2 u List.mem_cons_self)
    have hv := may_lt (hb.2 v List.mem_cons_self)
    obtain ⟨w, hw, h1, _⟩ := h (2 * u.1) ⟨u, List.mem_cons_self, by omega, by omega⟩
    rcases List.mem_cons.1 hw with rfl | hw
    · omega
    · have := ap_head hb w hw; omega
  have high : ∀ (u v : Wi) (a b : List Wi), Ap (u :: a) → Ap (v :: b) → u.1 = v.1 → (∀ p, Pt (u :: a) p → Pt (v :: b) p) → u.2 ≤ v.2 := by
    intro u v a b ha hb he h
    have hu := may_lt (ha.2 u List.mem_cons_self)
    have hv := may_lt (hb.2 v List.mem_cons_self)
    refine Int.not_lt.1 fun hlt => ?_
    obtain ⟨w, hw, h1, h2⟩ := h (2 * v.2 + 1) ⟨u, List.mem_cons_self, by omega, by omega⟩
    rcases List.mem_cons.1 hw with rfl | hw
    · omega
    · have := ap_head hb w hw; omega
  have tail : ∀ (u : Wi) (a b : List Wi), Ap (u :: a) → Ap (u :: b) → (∀ p, Pt (u :: a) p → Pt (u :: b) p) → ∀ p, Pt a p → Pt b p := by
    intro u a b ha hb h p ⟨w, hw, h1, h2⟩
    have := ap_head ha w hw
    obtain ⟨z, hz, h3, h4⟩ := h p ⟨w, List.mem_cons_of_mem _ hw, h1, h2⟩
    rcases List.mem_cons.1 hz with rfl | hz
    · omega
    · exact ⟨z, hz, h3, h4⟩
  intro a
  induction a with
  | nil =>
    intro b _ hb h
    cases b with
    | nil => rfl
    | cons v b =>
      have hv := may_lt (hb.2 v List.mem_cons_self)
      obtain ⟨w, hw, _⟩ := (h (2 * v.1)).2 ⟨v, List.mem_cons_self, by omega, by omega⟩
      cases hw
  | cons u a ih =>
    intro b ha hb h
    cases b with
    | nil =>
      have hu := may_lt (ha.2 u List.mem_cons_self)
      obtain ⟨w, hw, _⟩ := (h (2 * u.1)).1 ⟨u, List.mem_cons_self, by omega, by omega⟩
      cases hw
    | cons v b =>
      have e1 : u.1 = v.1 := Int.le_antisymm (low v u b a hb ha fun p => (h p).2) (low u v a b ha hb fun p => (h p).1)
      have e2 : u.2 = v.2 := Int.le_antisymm (high u v a b ha hb e1 fun p => (h p).1) (high v u b a hb ha e1.symm fun p => (h p).2)
      have e : u = v := Prod.ext e1 e2
      subst e
      rw [ih b (ap_tail ha) (ap_tail hb) fun p => ⟨tail u a b ha hb (fun p => (h p).1) p, tail u b a hb ha (fun p => (h p).2) p⟩]
end Go.Proofs.Ytgpmceimhfkncaa
