/- The heap of a queue, as its row's value has it; adding to it and cutting from it. Conditions: as each theorem states them. -/
import Derived.Test.YtlmnnbmihimedaaA7
import Derived.Maps.AppendAt
namespace Go.Proofs.Ytlmnnbmihimedaa
open Go.RowKit
set_option linter.unusedVariables false
set_option linter.unusedSimpArgs false

def ptrV (b : Nat) : Value := .pointer (some ⟨b, 0, none⟩)
/-- Block q holds a heap of the blocks bs, in the row v. -/
structure Heap (w : World) (B q : Nat) (v : Value) (bs : List Nat) (tm : Nat → Tm) (pl : Nat → Int) : Prop where
  l : w.cell? ⟨q, 0, none⟩ = some v
  less : w.cell? ⟨q, 1, none⟩ = some (.func (.func 34) #[] #[])
  moved : w.cell? ⟨q, 2, none⟩ = some (.func (.func 35) #[] #[])
  lt : q < w.heap.size
  fz : w.frozen? ⟨q, 0, none⟩ = false
  row : w.ownsRow B 65 1 v bs.length (bs.map ptrV)
  item : ∀ b ∈ bs, ItemAt w b (tm b) (pl b)
  apart : ∀ g, v.ownBlock = some g → g ≠ q ∧ ∀ b ∈ bs, b ≠ g
  ne : ∀ b ∈ bs, b ≠ q
theorem Heap.rowOf {w : World} {B q : Nat} {v : Value} {bs : List Nat} {tm : Nat → Tm} {pl : Nat → Int} (h : Heap w B q v bs tm pl) (hbs : 0 < bs.length) :
    ∃ g c, v = .slice (some ⟨g, 0, none⟩) bs.length c ∧ B ≤ g ∧ bs.length ≤ c ∧ c ≤ maxLen ∧ ∃ cur : Array Value, w.heap[g]? = some (Obj.cells cur 65 (0, 0)) ∧ cur.size = c ∧ cur.toList.take bs.length = bs.map ptrV := by
  rcases h.row.2 with ⟨_, h0⟩ | ⟨g, c, cur, hv, hb, hg, hn, hc, hs, ht⟩
  · omega
  · exact ⟨g, c, hv, hb, hn, hc, cur, hg, by omega, by simpa using ht⟩
theorem row_cell {w : World} {g : Nat} {cur : Array Value} {t : TypeId} {bs : List Nat} (hg : w.heap[g]? = some (Obj.cells cur t (0, 0))) (ht : cur.toList.take bs.length = bs.map ptrV) {i : Nat} (hi : i < bs.length) : w.cell? ⟨g, i, none⟩ = some (ptrV (bs.getD i 0)) := by
  have h1 : (cur.toList.take bs.length)[i]? = some (ptrV (bs.getD i 0)) := by
    rw [ht, List.getElem?_map, List.getD_eq_getElem?_getD, List.getElem?_eq_getElem hi]
    rfl
  rw [List.getElem?_take, if_pos hi] at h1
  simp only [World.cell?, hg]
  simpa using h1
theorem row_frozen {w : World} {g : Nat} {cur : Array Value} {t : TypeId} (hg : w.heap[g]? = some (Obj.cells cur t (0, 0))) (i : Nat) : w.frozen? ⟨g, i, none⟩ = false := by
  simp [World.frozen?, hg]
theorem Heap.pile {w : World} {B q g n c : Nat} {bs : List Nat} {tm : Nat → Tm} {pl : Nat → Int} (h : Heap w B q (.slice (some ⟨g, 0, none⟩) n c) bs tm pl) (hn : bs.length = n) (hpos : 0 < n) : Pile w q g c bs tm pl := by
  subst hn
  obtain ⟨g', c', hv, hb, hn, hc, cur, hg, hs, ht⟩ := h.rowOf hpos
  cases hv
  have hap := h.apart g rfl
  refine ⟨⟨h.l, h.less, h.moved, h.lt, (Array.getElem?_eq_some_iff.1 hg).1⟩, fun i hi => row_cell hg ht hi, fun i _ => row_frozen hg i, h.item, hap.1, fun b hb => ⟨hap.2 b hb, h.ne b hb⟩⟩
theorem cells_of_row {w : World} {g : Nat} {cur : Array Value} {t : TypeId} {bs : List Nat} (hg : w.heap[g]? = some (Obj.cells cur t (0, 0))) (hn : bs.length ≤ cur.size) (hc : ∀ i, i < bs.length → w.cell? ⟨g, i, none⟩ = some (ptrV (bs.getD i 0))) : cur.toList.take bs.length = bs.map ptrV := by
  apply List.ext_getElem?
  intro i
  by_cases hi : i < bs.length
  · have h1 := hc i hi
    simp only [World.cell?, hg] at h1
    rw [List.getElem?_take, if_pos hi, List.getElem?_map, List.getElem?_eq_getElem hi]
    rw [List.getD_eq_getElem?_getD, List.getElem?_eq_getElem hi] at h1
    simpa using h1
  · rw [List.getElem?_take, if_neg hi, List.getElem?_eq_none (by simp; omega)]
theorem Pile.heap {w : World} {B q g n c : Nat} {bs : List Nat} {tm : Nat → Tm} {pl : Nat → Int} (h : Pile w q g c bs tm pl) (hn : bs.length = n) (hfz : w.frozen? ⟨q, 0, none⟩ = false) (hB : B ≤ g) (hnc : n ≤ c) (hcm : c ≤ maxLen) {cur : Array Value} (hg : w.heap[g]? = some (Obj.cells cur 65 (0, 0))) (hs : cur.size = c) :
    Heap w B q (.slice (some ⟨g, 0, none⟩) n c) bs tm pl := by
  subst hn
  refine ⟨h.p.l, h.p.less, h.p.moved, h.p.lt, hfz, ⟨by simp, .inr ⟨g, c, cur, rfl, hB, hg, hnc, hcm, by omega, ?_⟩⟩, h.item, ?_, fun b hb => (h.ne b hb).2⟩
  · rw [Nat.mul_one]
    exact cells_of_row hg (by omega) h.cell
  · intro g' hg'
    simp [Value.ownBlock] at hg'
    subst hg'
    exact ⟨h.gq, fun b hb => (h.ne b hb).1⟩
end Go.Proofs.Ytlmnnbmihimedaa
