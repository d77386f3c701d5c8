/- Plain facts on windows merged one behind the other, for the law WindowSessions. Conditions: as each theorem states them. -/
import Derived.Test.YtgpmceimhfkncaaG2
namespace Go.Proofs.Ytgpmceimhfkncaa
set_option linter.unusedVariables false
set_option linter.unusedSimpArgs false

def stepW (out : List Wi) (x : Wi) : List Wi := restL (oneF x out) out
def foldW (l : List Wi) : List Wi := l.foldl stepW []
/-- What all answers. -/
def allV (l : List Wi) : List Wi × Bool := if l.all mayB then (foldW l, true) else ([], false)
structure FW (out pre : List Wi) : Prop where
  ap : Ap out
  pt : ∀ p, Pt out p ↔ Pt pre p
  len : out.length ≤ pre.length
  inn : ∀ x ∈ pre, ∃ a ∈ out, a.1 ≤ x.1 ∧ x.2 ≤ a.2
  lo : ∀ a ∈ out, ∃ x ∈ pre, x.1 = a.1
  hi : ∀ a ∈ out, ∃ x ∈ pre, x.2 = a.2
theorem mem_rest {x : Wi} {l : List Wi} (h : Ap l) (hx : mayB x = true) {a : Wi} : a ∈ restL (oneF x l) l ↔ a = oneF x l ∨ (a ∈ l ∧ meetB a x = false) := by
  rw [restL_eq h hx, List.mem_append, List.mem_cons]
  constructor
  · rintro (ha | rfl | ha)
    · obtain ⟨h1, h2⟩ := List.mem_filter.1 ha
      exact .inr ⟨h1, (not_met h hx h1).2 (.inl (by simpa using h2))⟩
    · exact .inl rfl
    · obtain ⟨h1, h2⟩ := List.mem_filter.1 ha
      exact .inr ⟨h1, (not_met h hx h1).2 (.inr (by simpa using h2))⟩
  · rintro (rfl | ⟨h1, h2⟩)
    · exact .inr (.inl rfl)
    · rcases (not_met h hx h1).1 h2 with h3 | h3
      · exact .inl (List.mem_filter.2 ⟨h1, by simpa using h3⟩)
      · exact .inr (.inr (List.mem_filter.2 ⟨h1, by simpa using h3⟩))
theorem FW.step {out pre : List Wi} (h : FW out pre) {x : Wi} (hx : mayB x = true) : FW (stepW out x) (pre ++ [x]) := by
  have ho := oneOk x out
  unfold stepW
  refine ⟨rest_ap h.ap hx, fun p => ?_, ?_, fun y hy => ?_, fun a ha => ?_, fun a ha => ?_⟩
  · rw [rest_pt h.ap hx p, h.pt p]
    constructor
    · rintro (⟨a, ha, hp⟩ | hp)
      · exact ⟨a, List.mem_append.2 (.inl ha), hp⟩
      · exact ⟨x, List.mem_append.2 (.inr (List.mem_singleton.2 rfl)), hp⟩
    · rintro ⟨a, ha, hp⟩
      rcases List.mem_append.1 ha with ha | ha
      · exact .inl ⟨a, ha, hp⟩
      · rw [List.mem_singleton] at ha
        subst ha
        exact .inr hp
  · have := rest_len h.ap hx
    have := h.len
    rw [List.length_append, List.length_singleton]
    omega
  · rcases List.mem_append.1 hy with hy | hy
    · obtain ⟨a, ha, h1, h2⟩ := h.inn y hy
      cases hm : meetB a x
      · exact ⟨a, (mem_rest h.ap hx).2 (.inr ⟨ha, hm⟩), h1, h2⟩
      · have := ho.all a ha hm
        exact ⟨_, one_mem h.ap hx, by omega, by omega⟩
    · rw [List.mem_singleton] at hy
      subst hy
      exact ⟨_, one_mem h.ap hx, ho.lo, ho.hi⟩
  · rcases (mem_rest h.ap hx).1 ha with rfl | ⟨ha, _⟩
    · rcases ho.wlo with h1 | ⟨z, hz, _, h1⟩
      · exact ⟨x, List.mem_append.2 (.inr (List.mem_singleton.2 rfl)), h1.symm⟩
      · obtain ⟨y, hy, h2⟩ := h.lo z hz
        exact ⟨y, List.mem_append.2 (.inl hy), h2.trans h1⟩
    · obtain ⟨y, hy, h2⟩ := h.lo a ha
      exact ⟨y, List.mem_append.2 (.inl hy), h2⟩
  · rcases (mem_rest h.ap hx).1 ha with rfl | ⟨ha, _⟩
    · rcases ho.whi with h1 | ⟨z, hz, _, h1⟩
      · exact ⟨x, List.mem_append.2 (.inr (List.mem_singleton.2 rfl)), h1.symm⟩
      · obtain ⟨y, hy, h2⟩ := h.hi z hz
        exact ⟨y, List.mem_append.2 (.inl hy), h2.trans h1⟩
    · obtain ⟨y, hy, h2⟩ := h.hi a ha
      exact ⟨y, List.mem_append.2 (.inl hy), h2⟩
theorem FW.nil : FW [] [] := ⟨⟨List.Pairwise.nil, by simp⟩, fun p => Iff.rfl, Nat.le_refl _, by simp, by simp, by simp⟩
theorem FW.fold : ∀ (l : List Wi), (∀ x ∈ l, mayB x = true) → ∀ (out pre : List Wi), FW out pre → FW (l.foldl stepW out) (pre ++ l) := by
  intro l
  induction l with
  | nil => intro _ out pre h; simpa using h
  | cons x l ih =>
    intro hm out pre h
    have := ih (fun y hy => hm y (List.mem_cons_of_mem _ hy)) _ _ (h.step (hm x List.mem_cons_self))
    simpa using this
theorem foldW_ok {l : List Wi} (h : ∀ x ∈ l, mayB x = true) : FW (foldW l) l := by
  have := FW.fold l h [] [] FW.nil
  simpa [foldW] using this
theorem foldW_same {l m : List Wi} (h : ∀ x ∈ l, mayB x = true) (hs : ∀ x, x ∈ l ↔ x ∈ m) : foldW m = foldW l := by
  have h1 := foldW_ok h
  have h2 := foldW_ok (l := m) (fun x hx => h x ((hs x).2 hx))
  refine pt_uniq _ _ h2.ap h1.ap fun p => ?_
  rw [h1.pt p, h2.pt p]
  constructor
  · rintro ⟨a, ha, hp⟩; exact ⟨a, (hs a).2 ha, hp⟩
  · rintro ⟨a, ha, hp⟩; exact ⟨a, (hs a).1 ha, hp⟩
theorem allV_same {l m : List Wi} (hs : ∀ x, x ∈ l ↔ x ∈ m) : allV m = allV l := by
  unfold allV
  by_cases h : ∀ x ∈ l, mayB x = true
  · have h2 : ∀ x ∈ m, mayB x = true := fun x hx => h x ((hs x).2 hx)
    rw [if_pos (List.all_eq_true.2 h), if_pos (List.all_eq_true.2 h2), foldW_same h hs]
  · have h2 : ¬ ∀ x ∈ m, mayB x = true := fun hc => h fun x hx => hc x ((hs x).1 hx)
    rw [if_neg (fun hc => h (List.all_eq_true.1 hc)), if_neg (fun hc => h2 (List.all_eq_true.1 hc))]
theorem allV_len {l : List Wi} : (allV l).1.length ≤ l.length := by
  unfold allV
  by_cases h : l.all mayB = true
  · rw [if_pos h]; exact (foldW_ok (List.all_eq_true.1 h)).len
  · rw [if_neg h]; exact Nat.zero_le _
theorem fold_take {xs : List Wi} {k : Nat} (hk : k < xs.length) : foldW (xs.take (k + 1)) = stepW (foldW (xs.take k)) (xs.getD k (0, 0)) := by
  rw [take_snoc xs k hk]
  simp [foldW]
theorem merge_step {xs : List Wi} {k : Nat} (hk : k < xs.length) (h : ∀ x ∈ xs.take k, mayB x = true) (hm : mayB (xs.getD k (0, 0)) = true) :
    mergeV (foldW (xs.take k)) (xs.getD k (0, 0)) = (oneF (xs.getD k (0, 0)) (foldW (xs.take k)), goneF (xs.getD k (0, 0)) (foldW (xs.take k)), foldW (xs.take (k + 1)), 0) := by
  have := (ap_iff _).2 (foldW_ok h).ap
  unfold mergeV
  rw [this, hm, fold_take hk]
  rfl
theorem merge_stop {xs : List Wi} {k : Nat} (hm : mayB (xs.getD k (0, 0)) = false) (out : List Wi) : mergeV out (xs.getD k (0, 0)) = ((0, 0), [], [], 2) := by
  unfold mergeV
  rw [hm]
  simp
theorem allV_stop {xs : List Wi} {k : Nat} (hk : k < xs.length) (hm : mayB (xs.getD k (0, 0)) = false) : allV xs = ([], false) := by
  unfold allV
  rw [if_neg]
  intro h
  have := List.all_eq_true.1 h (xs[k]) (List.getElem_mem _)
  rw [getD_eq xs k hk] at hm
  rw [hm] at this
  cases this
end Go.Proofs.Ytgpmceimhfkncaa
