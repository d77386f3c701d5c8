/- Plain facts on Merge's answers, for the law WindowWithin. Conditions: as each theorem states them. -/
import Derived.Test.YtgpmceimhfkncaaG1
namespace Go.Proofs.Ytgpmceimhfkncaa
set_option linter.unusedVariables false
set_option linter.unusedSimpArgs false

theorem one_mem {x : Wi} {l : List Wi} (h : Ap l) (hx : mayB x = true) : oneF x l ∈ restL (oneF x l) l := by
  rw [restL_eq h hx]
  exact List.mem_append.2 (.inr List.mem_cons_self)
theorem one_again {x : Wi} {l : List Wi} (h : Ap l) (hx : mayB x = true) : oneF x (restL (oneF x l) l) = oneF x l := by
  have hR := rest_ap h hx
  have hm := one_mem h hx
  have ho := oneOk x l
  have ho2 := oneOk x (restL (oneF x l) l)
  generalize restL (oneF x l) l = R at *
  have hxl := may_lt hx
  have h1 := ho.lo
  have h2 := ho.hi
  have hmm : meetB (oneF x l) x = true := meet_iff.2 ⟨by omega, by omega⟩
  have h3 := ho2.all _ hm hmm
  have h4 := ho2.lo
  have h5 := ho2.hi
  generalize oneF x l = o at *
  have key : ∀ z ∈ R, meetB z x = true → z = o := by
    intro z hz hzm
    rw [meet_iff] at hzm
    rcases ap_two hR hz hm with h | h | h
    · exact h
    · omega
    · omega
  refine Prod.ext ?_ ?_
  · rcases ho2.wlo with h | ⟨z, hz, hzm, h⟩
    · omega
    · rw [key z hz hzm] at h; exact h.symm
  · rcases ho2.whi with h | ⟨z, hz, hzm, h⟩
    · omega
    · rw [key z hz hzm] at h; exact h.symm
theorem rest_again {x : Wi} {l : List Wi} (h : Ap l) (hx : mayB x = true) : restL (oneF x l) (restL (oneF x l) l) = restL (oneF x l) l := by
  have hR := rest_ap h hx
  have e := one_again h hx
  have hm := one_mem h hx
  have ho := oneOk x l
  have h1 := ho.lo
  have h2 := ho.hi
  refine pt_uniq _ _ ?_ hR fun p => ?_
  · have := rest_ap hR hx
    rwa [e] at this
  · have := rest_pt hR hx p
    rw [e] at this
    rw [this]
    constructor
    · rintro (hp | hp)
      · exact hp
      · exact ⟨_, hm, by omega, by omega⟩
    · exact .inl
theorem gone_again {x : Wi} {l : List Wi} (h : Ap l) (hx : mayB x = true) : goneF x (restL (oneF x l) l) = [oneF x l] := by
  have hR := rest_ap h hx
  have e := one_again h hx
  have ho := oneOk x l
  have h1 := ho.lo
  have h2 := ho.hi
  have hxl := may_lt hx
  have hmm : meetB (oneF x l) x = true := meet_iff.2 ⟨by omega, by omega⟩
  have hol := may_lt (one_may h hx)
  have hn : ∀ y ∈ restL (oneF x l) l, (y.1 < (oneF x l).1 ∨ (oneF x l).2 < y.1) → meetB y x = false := by
    intro y hy hc
    have := (not_met hR hx hy).2
    rw [e] at this
    exact this hc
  have er := restL_eq h hx
  have hlo : ∀ y ∈ l.filter (fun y => decide (y.1 < (oneF x l).1)), meetB y x = false := by
    intro y hy
    refine hn y (by rw [er]; exact List.mem_append.2 (.inl hy)) (.inl ?_)
    simpa using (List.mem_filter.1 hy).2
  have hhi : ∀ y ∈ l.filter (fun y => decide ((oneF x l).2 < y.1)), meetB y x = false := by
    intro y hy
    refine hn y (by rw [er]; exact List.mem_append.2 (.inr (List.mem_cons_of_mem _ hy))) (.inr ?_)
    simpa using (List.mem_filter.1 hy).2
  rw [er]
  unfold goneF
  rw [List.filter_append, List.filter_cons_of_pos (p := fun y => meetB y x) hmm, List.filter_eq_nil_iff.2 (fun y hy => by rw [hlo y hy]; simp), List.filter_eq_nil_iff.2 (fun y hy => by rw [hhi y hy]; simp)]
  rfl
theorem count3 (x o : Wi) (ho : o.1 ≤ o.2) : ∀ (l : List Wi), (∀ y ∈ l, (meetB y x = false ↔ y.1 < o.1 ∨ o.2 < y.1)) →
    l.length = (l.filter fun y => meetB y x).length + (l.filter fun y => decide (y.1 < o.1)).length + (l.filter fun y => decide (o.2 < y.1)).length := by
  intro l
  induction l with
  | nil => intro _; rfl
  | cons y l ih =>
    intro h
    have hy := h y List.mem_cons_self
    have := ih fun z hz => h z (List.mem_cons_of_mem _ hz)
    simp only [List.filter_cons, List.length_cons]
    cases hm : meetB y x
    · rcases hy.1 hm with hc | hc
      · have hc2 : ¬ o.2 < y.1 := by omega
        simp [hc, hc2]
        omega
      · have hc2 : ¬ y.1 < o.1 := by omega
        simp [hc, hc2]
        omega
    · have hc : ¬ (y.1 < o.1 ∨ o.2 < y.1) := fun hc => by rw [hy.2 hc] at hm; cases hm
      have hc1 : ¬ y.1 < o.1 := fun h => hc (.inl h)
      have hc2 : ¬ o.2 < y.1 := fun h => hc (.inr h)
      simp [hc1, hc2]
      omega
theorem rest_len {x : Wi} {l : List Wi} (h : Ap l) (hx : mayB x = true) : (restL (oneF x l) l).length + (goneF x l).length = l.length + 1 := by
  have := count3 x (oneF x l) (by have := may_lt (one_may h hx); omega) l fun y hy => not_met h hx hy
  have e : (restL (oneF x l) l).length = (l.filter fun y => decide (y.1 < (oneF x l).1)).length + ((l.filter fun y => decide ((oneF x l).2 < y.1)).length + 1) := by
    rw [restL_eq h hx, List.length_append, List.length_cons]
  have e2 : (goneF x l).length = (l.filter fun y => meetB y x).length := rfl
  rw [e, e2, this]
  clear this e e2
  omega
theorem rest_in {x : Wi} {l : List Wi} (h : Ap l) (hx : mayB x = true) (hi : ∃ a ∈ l, a.1 ≤ x.1 ∧ x.2 ≤ a.2) : restL (oneF x l) l = l := by
  obtain ⟨a, ha, h1, h2⟩ := hi
  refine pt_uniq _ _ (rest_ap h hx) h fun p => ?_
  rw [rest_pt h hx p]
  constructor
  · rintro (hp | hp)
    · exact hp
    · exact ⟨a, ha, by omega, by omega⟩
  · exact .inl
end Go.Proofs.Ytgpmceimhfkncaa
