/- A slice of windows as an argument: what it is, and what its cells read as. Conditions: as the theorem states them. -/
import Derived.Test.YtgpmceimhfkncaaB0
import Derived.Deep.SlicePairs
import Derived.ProofKit
import Derived.OpenShut
namespace Go.Proofs.Ytgpmceimhfkncaa
open Go.RowKit Go.ChangeShapes Go.WideShapes Go.Deep
set_option linter.unusedVariables false
set_option linter.unusedSimpArgs false

section
variable {H : Type} {enc : TypeId × Value → H} {w : World} {base : Nat} {spare : Nat → Bool} {held : Bool} {r : Reach} {b0 : Nat}
theorem open_wins {v : Value} {d : DataW H} {ps : List MemPlace} (hv : Value.okWide Try.prog w r b0 24 v) (h : DataW.Trod enc Try.prog w base spare held 24 v d ps) :
    ∃ A c l, v = .slice A (List.length (α := Int × Int) l) c ∧ RdW w w.heap.size A l ∧ l.length ≤ c := by
  obtain ⟨a, len, cap, rfl⟩ := okWide_slice Try.underlying24 hv
  obtain ⟨fuel, hf⟩ := h
  rcases open_slice_pairs Try.underlying24 Try.underlying33 (by kernel_rfl) rfl rfl (by kernel_rfl) (by kernel_rfl) hf with ⟨h0, _⟩ | ⟨a', len', cap', m, n, V0, V1, D0, D1, P0, P1, h0, hb, hl, hm, hmm, _, hx⟩
  · simp [Value.cells] at h0
    obtain ⟨rfl, rfl, rfl⟩ := h0
    exact ⟨none, 0, [], rfl, ⟨by simp, by simp⟩, by simp⟩
  · simp [Value.cells] at h0
    obtain ⟨rfl, rfl, rfl⟩ := h0
    have hlm : len ≤ m := by rw [hmm]; split <;> omega
    have each : ∀ i, i < len → ∃ q : Int × Int, w.cell? (a'.add (i * 2)) = some (.int .i64 q.1) ∧ w.cell? (a'.add (i * 2 + 1)) = some (.int .i64 q.2) := by
      intro i hi
      obtain ⟨h1, h2, h3, h4⟩ := hx i (by omega)
      obtain ⟨n1, e1, _, _⟩ := DataW.trod_int Try.underlying2 h3
      obtain ⟨n2, e2, _, _⟩ := DataW.trod_int Try.underlying2 h4
      simp at e1 e2
      rw [e1] at h1
      rw [e2] at h2
      exact ⟨(n1, n2), h1, h2⟩
    obtain ⟨q, hq⟩ := choose_lt each
    have hlen : ((List.range len).map q).length = len := by simp
    refine ⟨some a', cap, (List.range len).map q, by rw [hlen], ⟨by rw [hlen]; simp only [maxLen] at hm; omega, fun hn => ?_⟩, by rw [hlen]; exact hl⟩
    rw [hlen] at hn ⊢
    obtain ⟨q0, _⟩ := hq 0 hn
    have hs := World.cell?_spot q0
    obtain ⟨b, off, sp⟩ := a'
    have hs : sp = none := by simpa [Addr.add] using hs
    subst hs
    refine ⟨b, off, rfl, ?_, fun i hi => ?_⟩
    · simp only [Addr.add_lit] at q0
      by_cases hlt : b < w.heap.size
      · exact hlt
      · have : w.heap[b]? = none := by simp; omega
        simp [World.cell?, this] at q0
    · obtain ⟨q1, q2⟩ := hq i hi
      rw [List.getD_eq_getElem?_getD, List.getElem?_map, List.getElem?_range hi]
      simp only [Addr.add_lit] at q1 q2
      exact ⟨q1, q2⟩
end
end Go.Proofs.Ytgpmceimhfkncaa
