/- Openings of choices. Conditions: as each theorem states them. -/
import Derived.Test.YtjgiohlkpenipaaC4
import Derived.Lib.SmallJoins
namespace Go.Proofs.Ytjgiohlkpenipaa
open Go.RowKit Go.Maps Go.ChangeShapes Go.WideShapes Go.Deep Go.Joins
set_option linter.unusedVariables false
set_option linter.unusedSimpArgs false

theorem und22 : Try.prog.underlying 22 = some (.slice 3) := by kernel_rfl
theorem u3 : Try.prog.underlying 3 = some (.int .i64) := by kernel_rfl
theorem c3 : Try.prog.cellsOf 3 = 1 := by kernel_rfl
theorem add_add (a : Addr) (i j : Nat) : (a.add i).add j = a.add (i + j) := by
  unfold Addr.add
  simp
  split <;> split <;> simp_all [Nat.add_assoc]
section
variable {H : Type} {enc : TypeId × Value → H} {w : World} {base : Nat} {spare : Nat → Bool} {held : Bool} {r : Reach} {b0 : Nat}
set_option maxRecDepth 100000 in
theorem open_nums {t e : TypeId} {k : IntKind} (ht : Try.prog.underlying t = some (.slice e)) (he : Try.prog.underlying e = some (.int k)) (hc1 : Try.prog.cellsOf e = 1) {v : Value} {d : DataW H} {ps : List MemPlace} (hv : Value.okWide Try.prog w r b0 t v) (h : DataW.Trod enc Try.prog w base spare held t v d ps) :
    ∃ A c l, v = .slice A (List.length (α := Int) l) c ∧ (0 < l.length → ∃ b off, A = some ⟨b, off, none⟩ ∧ b < w.heap.size ∧ ∀ i, i < l.length → w.cell? ⟨b, off + i, none⟩ = some (.int k (l.getD i 0))) ∧ (∀ x ∈ l, (Lit.int k x).wf = true) ∧ l.length ≤ c ∧ l.length ≤ maxLen := by
  obtain ⟨a, len, cap, rfl⟩ := okWide_slice ht hv
  obtain ⟨fuel, hf⟩ := h
  rcases open_slice ht hf with ⟨h0, _⟩ | ⟨a', len', cap', m, n, D, PP, h0, hb, hl, hm, hmm, _, hx⟩
  · simp [Value.cells] at h0
    obtain ⟨rfl, rfl, rfl⟩ := h0
    exact ⟨none, 0, [], rfl, fun h => by simp at h, by simp, by simp, by simp⟩
  · simp [Value.cells] at h0
    obtain ⟨rfl, rfl, rfl⟩ := h0
    have hlm : len ≤ m := by rw [hmm]; split <;> omega
    have each : ∀ i, i < len → ∃ q : Int, w.cell? (a'.add i) = some (.int k q) ∧ (Lit.int k q).wf = true := by
      intro i hi
      obtain ⟨cs', h1, h2⟩ := hx i (by omega)
      rw [hc1] at h1
      obtain ⟨_, hlen, hcell⟩ := World.cells?_some h1
      match cs', hlen with
      | [v0], _ =>
        obtain ⟨n0, e0, _, f0⟩ := DataW.trod_int he h2
        simp at e0
        subst e0
        have u0 := hcell 0 (by omega)
        rw [add_add, Nat.add_zero] at u0
        exact ⟨n0, by simpa using u0, f0⟩
    obtain ⟨q, hq⟩ := choose_lt each
    have hlen : ((List.range len).map q).length = len := by simp
    refine ⟨some a', cap, (List.range len).map q, by rw [hlen], fun hn => ?_, fun x hx => ?_, by rw [hlen]; exact hl, by rw [hlen]; omega⟩
    · rw [hlen] at hn ⊢
      obtain ⟨q0, _⟩ := hq 0 hn
      have hs := World.cell?_spot q0
      obtain ⟨b, off, sp⟩ := a'
      have hs : sp = none := by simpa [Addr.add] using hs
      subst hs
      refine ⟨b, off, rfl, ?_, fun i hi => ?_⟩
      · simp only [Addr.add_lit] at q0
        by_cases hlt : b < w.heap.size
        · exact hlt
        · have : w.heap[b]? = none := by simp; omega
          simp [World.cell?, this] at q0
      · obtain ⟨q1, _⟩ := hq i hi
        rw [List.getD_eq_getElem?_getD, List.getElem?_map, List.getElem?_range hi]
        simp only [Addr.add_lit] at q1
        exact q1
    · obtain ⟨i, hi, rfl⟩ := List.mem_map.1 hx
      exact (hq i (List.mem_range.1 hi)).2
set_option maxRecDepth 100000 in
theorem open_choices {v : Value} {d : DataW H} {ps : List MemPlace} (hv : Value.okWide Try.prog w r b0 22 v) (h : DataW.Trod enc Try.prog w base spare held 22 v d ps) :
    ∃ A c l, v = .slice A (List.length (α := Int) l) c ∧ RdC w A l ∧ l.length ≤ c ∧ (0 < l.length → ChA w.heap.size A) := by
  obtain ⟨A, c, l, rfl, h1, h2, h3, _⟩ := open_nums und22 u3 c3 hv h
  refine ⟨A, c, l, rfl, ⟨h1, fun x hx => ?_⟩, h3, fun hl a ha => ?_⟩
  · have h4 := h2 x hx
    have h5 : (decide (IntKind.min .i64 ≤ x) && decide (x ≤ IntKind.max .i64)) = true := h4
    rw [show IntKind.min .i64 = -9223372036854775808 by decide, show IntKind.max .i64 = 9223372036854775807 by decide, Bool.and_eq_true, decide_eq_true_eq, decide_eq_true_eq] at h5
    exact ⟨h5.1, Int.lt_of_le_of_lt h5.2 (by decide)⟩
  · obtain ⟨b, off, e, hb, _⟩ := h1 hl
    rw [ha] at e
    cases e
    exact hb
end
/-- The law DiskAtOnce, walked. -/
theorem once_walk (x y : ByteArray) (sure : Bool) (A : Option Addr) (c : Nat) (cs : List Int) (w : World) (hx : x.size ≤ 140737488351232) (hy : y.size ≤ 140737488351232) (o : RdC w A cs ∧ cs.length ≤ c ∧ (0 < cs.length → ChA w.heap.size A)) :
    Calls Try.prog 3 #[.string x, .string y, .bool sure, .slice A cs.length c] w fun e w' => e = .returned (.bool true) ∧ Below w.heap.size w w' := once_any x y sure cs A c w o.1 o.2.1 o.2.2
end Go.Proofs.Ytjgiohlkpenipaa
