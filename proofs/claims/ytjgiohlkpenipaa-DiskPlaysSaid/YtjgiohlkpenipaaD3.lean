/- Scripts as arguments. Conditions: as each theorem states them. -/
import Derived.Test.YtjgiohlkpenipaaD2
namespace Go.Proofs.Ytjgiohlkpenipaa
open Go.RowKit Go.Maps Go.ChangeShapes Go.WideShapes Go.Deep Go.Joins
set_option linter.unusedVariables false
set_option linter.unusedSimpArgs false

theorem und35 : Try.prog.underlying 35 = some (.slice 38) := by kernel_rfl
theorem c38 : Try.prog.cellsOf 38 = 5 := by kernel_rfl
theorem c9 : Try.prog.cellsOf 9 = 1 := by kernel_rfl
theorem c22 : Try.prog.cellsOf 22 = 1 := by kernel_rfl
section
variable {H : Type} {enc : TypeId × Value → H} {w : World} {base : Nat} {spare : Nat → Bool} {held : Bool} {r : Reach} {b0 : Nat}
theorem wf_rng {x : Int} (h4 : (Lit.int .i64 x).wf = true) : -9223372036854775808 ≤ x ∧ x < 9223372036854775808 := by
  have h5 : (decide (IntKind.min .i64 ≤ x) && decide (x ≤ IntKind.max .i64)) = true := h4
  rw [show IntKind.min .i64 = -9223372036854775808 by decide, show IntKind.max .i64 = 9223372036854775807 by decide, Bool.and_eq_true, decide_eq_true_eq, decide_eq_true_eq] at h5
  exact ⟨h5.1, Int.lt_of_le_of_lt h5.2 (by decide)⟩
set_option maxRecDepth 100000 in
theorem open_ch {fuel : Nat} {cs : List Value} {y : DataW H × List MemPlace} (h : DataW.trod enc Try.prog w base spare held fuel 22 cs = some y) :
    ∃ A c l, cs = [.slice A (List.length (α := Int) l) c] ∧ RdC w A l ∧ l.length ≤ c ∧ (0 < l.length → ChA w.heap.size A) := by
  rcases open_slice und22 h with ⟨h0, _⟩ | ⟨a', len, cap, m, n, D, PP, h0, hb, hl, hm, hmm, _, hx⟩
  · exact ⟨none, 0, [], by simpa using h0, ⟨fun h => by simp at h, by simp⟩, by simp, fun h => by simp at h⟩
  · have hlm : len ≤ m := by rw [hmm]; split <;> omega
    have each : ∀ i, i < len → ∃ q : Int, w.cell? (a'.add i) = some (.int .i64 q) ∧ (Lit.int .i64 q).wf = true := by
      intro i hi
      obtain ⟨cs', h1, h2⟩ := hx i (by omega)
      rw [c3] at h1
      obtain ⟨_, hlen, hcell⟩ := World.cells?_some h1
      match cs', hlen with
      | [v0], _ =>
        obtain ⟨n0, e0, _, f0⟩ := DataW.trod_int u3 h2
        simp at e0
        subst e0
        have u0 := hcell 0 (by omega)
        rw [add_add, Nat.add_zero] at u0
        exact ⟨n0, by simpa using u0, f0⟩
    obtain ⟨q, hq⟩ := choose_lt each
    have hlen : ((List.range len).map q).length = len := by simp
    have hpos : 0 < len → ∃ b off, a' = ⟨b, off, none⟩ ∧ b < w.heap.size ∧ ∀ i, i < len → w.cell? ⟨b, off + i, none⟩ = some (.int .i64 (((List.range len).map q).getD i 0)) := fun hn => by
      obtain ⟨q0, _⟩ := hq 0 hn
      have hs := World.cell?_spot q0
      obtain ⟨b, off, sp⟩ := a'
      have hs : sp = none := by simpa [Addr.add] using hs
      subst hs
      refine ⟨b, off, rfl, ?_, fun i hi => ?_⟩
      · simp only [Addr.add_lit] at q0
        by_cases hlt : b < w.heap.size
        · exact hlt
        · have : w.heap[b]? = none := by simp; omega
          simp [World.cell?, this] at q0
      · obtain ⟨q1, _⟩ := hq i hi
        rw [List.getD_eq_getElem?_getD, List.getElem?_map, List.getElem?_range hi]
        simp only [Addr.add_lit] at q1
        exact q1
    refine ⟨some a', cap, (List.range len).map q, by rw [hlen]; exact h0, ⟨fun hn => ?_, fun x hx => ?_⟩, by rw [hlen]; exact hl, fun hn a ha => ?_⟩
    · rw [hlen] at hn ⊢
      obtain ⟨b, off, e, h1, h2⟩ := hpos hn
      exact ⟨b, off, by rw [e], h1, h2⟩
    · obtain ⟨i, hi, rfl⟩ := List.mem_map.1 hx
      exact wf_rng (hq i (List.mem_range.1 hi)).2
    · rw [hlen] at hn
      obtain ⟨b, off, e, h1, h2⟩ := hpos hn
      cases ha
      rw [e]
      exact h1
set_option maxRecDepth 100000 in
theorem open_script {v : Value} {d : DataW H} {ps : List MemPlace} (hv : Value.okWide Try.prog w r b0 35 v) (h : DataW.Trod enc Try.prog w base spare held 35 v d ps) :
    ∃ A c l, v = .slice A (List.length (α := Oq) l) c ∧ RdO w A l := by
  obtain ⟨a, len, cap, rfl⟩ := okWide_slice und35 hv
  obtain ⟨fuel, hf⟩ := h
  rcases open_slice und35 hf with ⟨h0, _⟩ | ⟨a', len', cap', m, n, D, PP, h0, hb, hl, hm, hmm, _, hx⟩
  · simp [Value.cells] at h0
    obtain ⟨rfl, rfl, rfl⟩ := h0
    exact ⟨none, 0, [], rfl, ⟨fun h => by simp at h, by simp⟩⟩
  · simp [Value.cells] at h0
    obtain ⟨rfl, rfl, rfl⟩ := h0
    have hlm : len ≤ m := by rw [hmm]; split <;> omega
    have each : ∀ i, i < len → ∃ q : Oq, w.cell? (a'.add (i * 5)) = some (.int .i64 q.k) ∧ w.cell? (a'.add (i * 5 + 1)) = some (.string q.nm) ∧ w.cell? (a'.add (i * 5 + 2)) = some (.string q.dt) ∧ w.cell? (a'.add (i * 5 + 3)) = some (.int .i64 q.n) ∧ w.cell? (a'.add (i * 5 + 4)) = some (.slice q.A q.cs.length q.c) ∧ okQ w q := by
      intro i hi
      obtain ⟨cs', h1, h2⟩ := hx i (by omega)
      rw [c38] at h1
      obtain ⟨_, hlen, hcell⟩ := World.cells?_some h1
      obtain ⟨xs, k, hk, hxy, _, hxl, hf⟩ := DataW.trod_struct Try.underlying38 h2
      match xs, hxl, cs', hlen with
      | [y0, y1, y2, y3, y4], _, [v0, v1, v2, v3, v4], _ =>
        have g0 := hf 0 _ rfl
        have g1 := hf 1 _ rfl
        have g2 := hf 2 _ rfl
        have g3 := hf 3 _ rfl
        have g4 := hf 4 _ rfl
        simp [c3, c9, c22] at g0 g1 g2 g3 g4
        obtain ⟨n0, e0, _, f0⟩ := DataW.trod_int u3 g0
        obtain ⟨n1, e1, _, f1⟩ := DataW.trod_string Try.underlying9 g1
        obtain ⟨n2, e2, _, f2⟩ := DataW.trod_string Try.underlying9 g2
        obtain ⟨n3, e3, _, f3⟩ := DataW.trod_int u3 g3
        obtain ⟨A', c', l', e4, r1, r2, r3⟩ := open_ch g4
        simp at e0 e1 e2 e3 e4
        subst e0 e1 e2 e3 e4
        have u0 := hcell 0 (by omega)
        have u1 := hcell 1 (by omega)
        have u2 := hcell 2 (by omega)
        have u3 := hcell 3 (by omega)
        have u4 := hcell 4 (by omega)
        rw [add_add] at u0 u1 u2 u3 u4
        exact ⟨⟨n0, n1, n2, n3, A', l', c'⟩, by simpa using u0, by simpa using u1, by simpa using u2, by simpa using u3, by simpa using u4, f1, f2, wf_rng f3, r1, r2, r3⟩
    obtain ⟨q, hq⟩ := choose_lt each
    have hlen : ((List.range len).map q).length = len := by simp
    refine ⟨some a', cap, (List.range len).map q, by rw [hlen], ⟨fun hn => ?_, fun p hp => ?_⟩⟩
    · rw [hlen] at hn ⊢
      obtain ⟨q0, _⟩ := hq 0 hn
      have hs := World.cell?_spot q0
      obtain ⟨b, off, sp⟩ := a'
      have hs : sp = none := by simpa [Addr.add] using hs
      subst hs
      refine ⟨b, off, rfl, ?_, fun i hi => ?_⟩
      · simp only [Addr.add_lit] at q0
        by_cases hlt : b < w.heap.size
        · exact hlt
        · have : w.heap[b]? = none := by simp; omega
          simp [World.cell?, this] at q0
      · obtain ⟨q1, q2, q3, q4, q5, _⟩ := hq i hi
        rw [List.getD_eq_getElem?_getD, List.getElem?_map, List.getElem?_range hi]
        simp only [Addr.add_lit] at q1 q2 q3 q4 q5
        exact ⟨q1, q2, q3, q4, q5⟩
    · obtain ⟨i, hi, rfl⟩ := List.mem_map.1 hp
      exact (hq i (List.mem_range.1 hi)).2.2.2.2.2
end
end Go.Proofs.Ytjgiohlkpenipaa
