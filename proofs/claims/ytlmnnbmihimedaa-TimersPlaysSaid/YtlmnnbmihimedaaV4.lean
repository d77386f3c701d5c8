/- The opening of a script. Conditions: as each theorem states them. -/
import Derived.Test.YtlmnnbmihimedaaV3
namespace Go.Proofs.Ytlmnnbmihimedaa
open Go.RowKit Go.Maps Go.ChangeShapes Go.WideShapes Go.Deep
set_option linter.unusedVariables false
set_option linter.unusedSimpArgs false

/-- A call of a script. -/
structure Pl where
  d : Int
  x : Tm
def zeroP : Pl := ⟨0, zeroT⟩
instance : Inhabited Pl := ⟨zeroP⟩
/-- A slice of calls reads as a list. -/
def RdP (w : World) (A : Option Addr) (l : List Pl) : Prop :=
  0 < l.length → ∃ b off, A = some ⟨b, off, none⟩ ∧ b < w.heap.size ∧ ∀ i, i < l.length → w.cell? ⟨b, off + i * 4, none⟩ = some (.int .i64 (l.getD i zeroP).d) ∧ w.cell? ⟨b, off + i * 4 + 1, none⟩ = some (.int .i64 (l.getD i zeroP).x.t) ∧
    w.cell? ⟨b, off + i * 4 + 2, none⟩ = some (.string (l.getD i zeroP).x.k) ∧ w.cell? ⟨b, off + i * 4 + 3, none⟩ = some (.string (l.getD i zeroP).x.s)
theorem und42 : Try.prog.underlying 42 = some (.slice 45) := by kernel_rfl
theorem c45 : Try.prog.cellsOf 45 = 4 := by kernel_rfl
theorem c3 : Try.prog.cellsOf 3 = 1 := by kernel_rfl
section
variable {H : Type} {enc : TypeId × Value → H} {w : World} {base : Nat} {spare : Nat → Bool} {held : Bool} {r : Reach} {b0 : Nat}
theorem open_ops {v : Value} {d : DataW H} {ps : List MemPlace} (hv : Value.okWide Try.prog w r b0 42 v) (h : DataW.Trod enc Try.prog w base spare held 42 v d ps) :
    ∃ A c l, v = .slice A (List.length (α := Pl) l) c ∧ RdP w A l ∧ l.length ≤ c ∧ l.length ≤ maxLen := by
  obtain ⟨a, len, cap, rfl⟩ := okWide_slice und42 hv
  obtain ⟨fuel, hf⟩ := h
  rcases open_slice und42 hf with ⟨h0, _⟩ | ⟨a', len', cap', m, n, D, PP, h0, hb, hl, hm, hmm, _, hx⟩
  · simp [Value.cells] at h0
    obtain ⟨rfl, rfl, rfl⟩ := h0
    exact ⟨none, 0, [], rfl, fun h => by simp at h, by simp, by simp⟩
  · simp [Value.cells] at h0
    obtain ⟨rfl, rfl, rfl⟩ := h0
    have hlm : len ≤ m := by rw [hmm]; split <;> omega
    have each : ∀ i, i < len → ∃ q : Pl, w.cell? (a'.add (i * 4)) = some (.int .i64 q.d) ∧ w.cell? (a'.add (i * 4 + 1)) = some (.int .i64 q.x.t) ∧ w.cell? (a'.add (i * 4 + 2)) = some (.string q.x.k) ∧ w.cell? (a'.add (i * 4 + 3)) = some (.string q.x.s) := by
      intro i hi
      obtain ⟨cs', h1, h2⟩ := hx i (by omega)
      rw [c45] at h1
      obtain ⟨_, hlen, hcell⟩ := World.cells?_some h1
      obtain ⟨xs, k, hk, hxy, _, hxl, hf⟩ := DataW.trod_struct Try.underlying45 h2
      match xs, hxl, cs', hlen with
      | [y0, y1], _, [v0, v1, v2, v3], _ =>
        have g0 := hf 0 _ rfl
        have g1 := hf 1 _ rfl
        simp [c3, c23] at g0 g1
        obtain ⟨n0, e0, _, _⟩ := DataW.trod_int Try.underlying3 g0
        obtain ⟨xs', k', hk', hxy', _, hxl', hf'⟩ := DataW.trod_struct Try.underlying23 g1
        match xs', hxl' with
        | [z0, z1, z2], _ =>
          have q0 := hf' 0 _ rfl
          have q1 := hf' 1 _ rfl
          have q2 := hf' 2 _ rfl
          simp [c2, c9] at q0 q1 q2
          obtain ⟨m0, f0, _, _⟩ := DataW.trod_int Try.underlying2 q0
          obtain ⟨m1, f1, _, _⟩ := DataW.trod_string Try.underlying9 q1
          obtain ⟨m2, f2, _, _⟩ := DataW.trod_string Try.underlying9 q2
          simp at e0 f0 f1 f2
          subst e0 f0 f1 f2
          have u0 := hcell 0 (by omega)
          have u1 := hcell 1 (by omega)
          have u2 := hcell 2 (by omega)
          have u3 := hcell 3 (by omega)
          rw [add_add] at u0 u1 u2 u3
          exact ⟨⟨n0, ⟨m0, m1, m2⟩⟩, by simpa using u0, by simpa using u1, by simpa using u2, by simpa using u3⟩
    obtain ⟨q, hq⟩ := choose_lt each
    have hlen : ((List.range len).map q).length = len := by simp
    refine ⟨some a', cap, (List.range len).map q, by rw [hlen], fun hn => ?_, by rw [hlen]; exact hl, by rw [hlen]; omega⟩
    rw [hlen] at hn ⊢
    obtain ⟨q0, _⟩ := hq 0 hn
    have hs := World.cell?_spot q0
    obtain ⟨b, off, sp⟩ := a'
    have hs : sp = none := by simpa [Addr.add] using hs
    subst hs
    refine ⟨b, off, rfl, ?_, fun i hi => ?_⟩
    · simp only [Addr.add_lit] at q0
      by_cases hlt : b < w.heap.size
      · exact hlt
      · have : w.heap[b]? = none := by simp; omega
        simp [World.cell?, this] at q0
    · obtain ⟨q1, q2, q3, q4⟩ := hq i hi
      rw [List.getD_eq_getElem?_getD, List.getElem?_map, List.getElem?_range hi]
      simp only [Addr.add_lit] at q1 q2 q3 q4
      exact ⟨q1, q2, q3, q4⟩
end
end Go.Proofs.Ytlmnnbmihimedaa
