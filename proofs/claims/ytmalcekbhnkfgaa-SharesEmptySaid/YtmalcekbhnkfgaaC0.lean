/- Plain facts on what is known of a table. Conditions: as each theorem states them. -/
import Derived.Test.YtmalcekbhnkfgaaB9
namespace Go.Proofs.Ytmalcekbhnkfgaa
open Go.RowKit Go.Maps Go.Shelf
set_option linter.unusedVariables false
set_option linter.unusedSimpArgs false

theorem snoc_ind {α : Type} {P : List α → Prop} (h0 : P []) (hs : ∀ l x, P l → P (l ++ [x])) (l : List α) : P l := by
  have h : ∀ m : List α, P m.reverse := fun m => by
    induction m with
    | nil => simpa using h0
    | cons x m ih => rw [List.reverse_cons]; exact hs _ _ ih
  simpa using h l.reverse
theorem kn_mem {t s m : Int} {f : Sh} (l : List Sh) : kn t s m l = (f, true) → f ∈ l ∧ isK t s m f := by
  refine snoc_ind (P := fun l => kn t s m l = (f, true) → f ∈ l ∧ isK t s m f) ?_ ?_ l
  · intro h
    rw [kn_nil] at h
    simp at h
  · intro l g ih h
    by_cases hg : isK t s m g
    · rw [kn_yes hg] at h
      simp only [Prod.mk.injEq, and_true] at h
      subst h
      exact ⟨by simp, hg⟩
    · rw [kn_no hg] at h
      exact ⟨List.mem_append_left _ (ih h).1, (ih h).2⟩
theorem nodup_eq {l : List Sh} (h : (l.map Sh.tb).Nodup) {f g : Sh} (hf : f ∈ l) (hg : g ∈ l) (e : f.tb = g.tb) : f = g := by
  induction l with
  | nil => simp at hf
  | cons a l ih =>
    simp only [List.map_cons, List.nodup_cons] at h
    rcases List.mem_cons.1 hf with h1 | h1
    · rcases List.mem_cons.1 hg with h2 | h2
      · rw [h1, h2]
      · exact absurd (List.mem_map.2 ⟨g, h2, by rw [← e, h1]⟩) h.1
    · rcases List.mem_cons.1 hg with h2 | h2
      · exact absurd (List.mem_map.2 ⟨f, h1, by rw [e, h2]⟩) h.1
      · exact ih h.2 h1 h2
theorem kn_last {l1 : List Sh} {f : Sh} (l2 : List Sh) : (l2.map Sh.tb).Nodup → f ∈ l2 → kn f.tb f.sz f.sm (l1 ++ l2) = (f, true) := by
  refine snoc_ind (P := fun l2 => (l2.map Sh.tb).Nodup → f ∈ l2 → kn f.tb f.sz f.sm (l1 ++ l2) = (f, true)) ?_ ?_ l2
  · simp
  · intro l g ih h hf
    rw [← List.append_assoc]
    by_cases hg : isK f.tb f.sz f.sm g
    · rw [kn_yes hg, nodup_eq h (by simp) hf hg.1]
    · rw [kn_no hg]
      have hfl : f ∈ l := by
        rcases List.mem_append.1 hf with h1 | h1
        · exact h1
        · rw [List.mem_singleton.1 h1] at hg
          exact absurd ⟨rfl, rfl, rfl⟩ hg
      refine ih ?_ hfl
      rw [List.map_append] at h
      exact (List.nodup_append.1 h).1
theorem knownL_yes {l : List Pt} {t s m : Int} {f : Sh} (h : knownL l t s m = (f, true)) : RightP l ∧ f ∈ allF l ∧ isK t s m f := by
  unfold knownL at h
  split at h
  · rename_i hr
    exact ⟨hr, kn_mem _ h⟩
  · simp at h
theorem allF_last {l : List Pt} {n : Nat} (hl : l.length = n + 1) : allF l = allF (l.take n) ++ (l.getD n zeroP).fs := by
  unfold allF
  conv => lhs; rw [← List.take_length (l := l), hl, take_snocP (by omega), flat_append]
  simp [flat, Function.comp_def]
theorem known_last {l : List Pt} {n : Nat} (hl : l.length = n + 1) (hr : RightP l) {f : Sh} (hf : f ∈ (l.getD n zeroP).fs) : knownL l f.tb f.sz f.sm = (f, true) := by
  unfold knownL
  rw [if_pos hr, allF_last hl]
  exact kn_last _ ((hr.2.1 _ (getP_mem (by omega))).2.2.2.1) hf
theorem sh_parts4 {f g : Sh} (h : ¬ f = g) : ¬ f.tb = g.tb ∨ (f.tb = g.tb ∧ ¬ f.sz = g.sz) ∨ (f.tb = g.tb ∧ f.sz = g.sz ∧ ¬ f.sm = g.sm) ∨ (f.tb = g.tb ∧ f.sz = g.sz ∧ f.sm = g.sm ∧ ¬ f.nm = g.nm) := by
  by_cases h1 : f.tb = g.tb
  · by_cases h2 : f.sz = g.sz
    · by_cases h3 : f.sm = g.sm
      · by_cases h4 : f.nm = g.nm
        · refine absurd ?_ h
          obtain ⟨a, b, c, d, _, _, _, _⟩ := f
          obtain ⟨a', b', c', d', _, _, _, _⟩ := g
          dsimp only at *
          subst h1 h2 h3 h4
          rfl
        · exact .inr (.inr (.inr ⟨h1, h2, h3, h4⟩))
      · exact .inr (.inr (.inl ⟨h1, h2, h3⟩))
    · exact .inr (.inl ⟨h1, h2⟩)
  · exact .inl h1
end Go.Proofs.Ytmalcekbhnkfgaa
