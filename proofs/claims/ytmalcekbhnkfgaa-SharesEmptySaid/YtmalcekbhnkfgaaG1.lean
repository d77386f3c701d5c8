/- Openings of lists of numbers. Conditions: as each theorem states them. -/
import Derived.Test.YtmalcekbhnkfgaaG0
namespace Go.Proofs.Ytmalcekbhnkfgaa
open Go.RowKit Go.Maps Go.ChangeShapes Go.WideShapes Go.Deep Go.Joins
set_option linter.unusedVariables false
set_option linter.unusedSimpArgs false

theorem und52 : Try.prog.underlying 52 = some (.slice 3) := by kernel_rfl
theorem und38 : Try.prog.underlying 38 = some (.slice 23) := by kernel_rfl
section
variable {H : Type} {enc : TypeId × Value → H} {w : World} {base : Nat} {spare : Nat → Bool} {held : Bool} {r : Reach} {b0 : Nat}
set_option maxRecDepth 100000 in
theorem open_nums {t e : TypeId} {k : IntKind} (ht : Try.prog.underlying t = some (.slice e)) (he : Try.prog.underlying e = some (.int k)) (hc1 : Try.prog.cellsOf e = 1) {v : Value} {d : DataW H} {ps : List MemPlace} (hv : Value.okWide Try.prog w r b0 t v) (h : DataW.Trod enc Try.prog w base spare held t v d ps) :
    ∃ A c l, v = .slice A (List.length (α := Int) l) c ∧ (0 < l.length → ∃ b off, A = some ⟨b, off, none⟩ ∧ b < w.heap.size ∧ ∀ i, i < l.length → w.cell? ⟨b, off + i, none⟩ = some (.int k (l.getD i 0))) ∧ (∀ x ∈ l, (Lit.int k x).wf = true) ∧ l.length ≤ c ∧ l.length ≤ maxLen := by
  obtain ⟨a, len, cap, rfl⟩ := okWide_slice ht hv
  obtain ⟨fuel, hf⟩ := h
  rcases open_slice ht hf with ⟨h0, _⟩ | ⟨a', len', cap', m, n, D, PP, h0, hb, hl, hm, hmm, _, hx⟩
  · simp [Value.cells] at h0
    obtain ⟨rfl, rfl, rfl⟩ := h0
    exact ⟨none, 0, [], rfl, fun h => by simp at h, by simp, by simp, by simp⟩
  · simp [Value.cells] at h0
    obtain ⟨rfl, rfl, rfl⟩ := h0
    have hlm : len ≤ m := by rw [hmm]; split <;> omega
    have each : ∀ i, i < len → ∃ q : Int, w.cell? (a'.add i) = some (.int k q) ∧ (Lit.int k q).wf = true := by
      intro i hi
      obtain ⟨cs', h1, h2⟩ := hx i (by omega)
      rw [hc1] at h1
      obtain ⟨_, hlen, hcell⟩ := World.cells?_some h1
      match cs', hlen with
      | [v0], _ =>
        obtain ⟨n0, e0, _, f0⟩ := DataW.trod_int he h2
        simp at e0
        subst e0
        have u0 := hcell 0 (by omega)
        rw [add_add, Nat.add_zero] at u0
        exact ⟨n0, by simpa using u0, f0⟩
    obtain ⟨q, hq⟩ := choose_lt each
    have hlen : ((List.range len).map q).length = len := by simp
    refine ⟨some a', cap, (List.range len).map q, by rw [hlen], fun hn => ?_, fun x hx => ?_, by rw [hlen]; exact hl, by rw [hlen]; omega⟩
    · rw [hlen] at hn ⊢
      obtain ⟨q0, _⟩ := hq 0 hn
      have hs := World.cell?_spot q0
      obtain ⟨b, off, sp⟩ := a'
      have hs : sp = none := by simpa [Addr.add] using hs
      subst hs
      refine ⟨b, off, rfl, ?_, fun i hi => ?_⟩
      · simp only [Addr.add_lit] at q0
        by_cases hlt : b < w.heap.size
        · exact hlt
        · have : w.heap[b]? = none := by simp; omega
          simp [World.cell?, this] at q0
      · obtain ⟨q1, _⟩ := hq i hi
        rw [List.getD_eq_getElem?_getD, List.getElem?_map, List.getElem?_range hi]
        simp only [Addr.add_lit] at q1
        exact q1
    · obtain ⟨i, hi, rfl⟩ := List.mem_map.1 hx
      exact (hq i (List.mem_range.1 hi)).2
theorem open_ints {v : Value} {d : DataW H} {ps : List MemPlace} (hv : Value.okWide Try.prog w r b0 52 v) (h : DataW.Trod enc Try.prog w base spare held 52 v d ps) :
    ∃ A c l, v = .slice A (List.length (α := Int) l) c ∧ RdN w A l ∧ (∀ x ∈ l, (Lit.int .i64 x).wf = true) ∧ l.length ≤ c ∧ l.length ≤ maxLen := open_nums und52 u3 c3 hv h
theorem open_u64s {v : Value} {d : DataW H} {ps : List MemPlace} (hv : Value.okWide Try.prog w r b0 38 v) (h : DataW.Trod enc Try.prog w base spare held 38 v d ps) :
    ∃ A c l, v = .slice A (List.length (α := Int) l) c ∧ RdI w w.heap.size A l ∧ l.length ≤ c ∧ l.length ≤ maxLen := by
  obtain ⟨A, c, l, rfl, h1, h2, h3, h4⟩ := open_nums und38 u23 c23 hv h
  refine ⟨A, c, l, rfl, ⟨fun hl => ?_, h2⟩, h3, h4⟩
  obtain ⟨b, off, e, hb, hc⟩ := h1 hl
  exact ⟨b, off, e, hb, Nat.le_refl _, hc⟩
end
end Go.Proofs.Ytmalcekbhnkfgaa
