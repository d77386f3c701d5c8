/- The contract of pile.up. Conditions: as the theorem states them. -/
import Derived.Test.YtlmnnbmihimedaaA3
namespace Go.Proofs.Ytlmnnbmihimedaa
open Go.RowKit
set_option linter.unusedVariables false
set_option linter.unusedSimpArgs false

theorem sc_other {w : World} {a b : Addr} {v : Value} (h : a ≠ b) : (w.setCell a v).cell? b = w.cell? b := World.cell?_setCell_other _ _ _ _ h
theorem sc_same {w : World} {a : Addr} {v u : Value} (h : w.cell? a = some u) : (w.setCell a v).cell? a = some v := World.cell?_setCell_same _ _ _ h
/-- The row g of block q's pile has the blocks bs; each block of the list is an item with its timer, and a place. -/
structure Pile (w : World) (q g c : Nat) (bs : List Nat) (tm : Nat → Tm) (pl : Nat → Int) : Prop where
  p : PileAt w q g bs.length c
  cell : ∀ i, i < bs.length → w.cell? ⟨g, i, none⟩ = some (.pointer (some ⟨bs.getD i 0, 0, none⟩))
  fz : ∀ i, i < bs.length → w.frozen? ⟨g, i, none⟩ = false
  item : ∀ b ∈ bs, ItemAt w b (tm b) (pl b)
  gq : g ≠ q
  ne : ∀ b ∈ bs, b ≠ g ∧ b ≠ q
theorem PileAt.far {w : World} {q g n c : Nat} (h : PileAt w q g n c) {p : Addr} (hne : p.block ≠ q) (v : Value) : PileAt (w.setCell p v) q g n c := by
  have hh : (w.setCell p v).heap[q]? = w.heap[q]? := Below.heap_setCell w p v q (fun h => hne h.symm)
  have hc : ∀ i, (w.setCell p v).cell? ⟨q, i, none⟩ = w.cell? ⟨q, i, none⟩ := fun i => World.cell?_of_block hh
  obtain ⟨a, b, c, d, e⟩ := h
  exact ⟨(hc 0).trans a, (hc 1).trans b, (hc 2).trans c, by simpa [World.setCell] using d, by simpa [World.setCell] using e⟩
/-- The world that put leaves. -/
def putW (w : World) (g k x : Nat) : World := (w.setCell ⟨g, k, none⟩ (.pointer (some ⟨x, 0, none⟩))).setCell ⟨x, 3, none⟩ (.int .i64 k)
def plSet (pl : Nat → Int) (x : Nat) (k : Int) : Nat → Int := fun b => if b = x then k else pl b
theorem Pile.put {w : World} {q g c : Nat} {bs : List Nat} {tm : Nat → Tm} {pl : Nat → Int} (h : Pile w q g c bs tm pl) (k x : Nat) (hk : k < bs.length) (hx : ItemAt w x (tm x) (pl x)) (hxg : x ≠ g) (hxq : x ≠ q) :
    Pile (putW w g k x) q g c (bs.set k x) tm (plSet pl x k) := by
  have hsz : (putW w g k x).heap.size = w.heap.size := by simp [putW, World.setCell]
  have hcg : ∀ i, (putW w g k x).cell? ⟨g, i, none⟩ = (w.setCell ⟨g, k, none⟩ (.pointer (some ⟨x, 0, none⟩))).cell? ⟨g, i, none⟩ := fun i => sc_other (by intro e; cases e; exact hxg rfl)
  have hit : ∀ b, b ≠ g → ItemAt w b (tm b) (pl b) → ItemAt (putW w g k x) b (tm b) (plSet pl x k b) := by
    intro b hb hi
    have h1 := hi.far (p := ⟨g, k, none⟩) (fun e => hb e.symm) (.pointer (some ⟨x, 0, none⟩))
    by_cases hbx : b = x
    · subst hbx
      obtain ⟨c0, c1, c2, c3, fz, lt⟩ := h1
      refine ⟨(sc_other (by intro e; cases e)).trans c0, (sc_other (by intro e; cases e)).trans c1, (sc_other (by intro e; cases e)).trans c2, ?_, ?_, by simpa [putW, World.setCell] using lt⟩
      · have := sc_same (v := .int .i64 (k : Int)) c3
        simpa [putW, plSet] using this
      · simpa [putW] using fz
    · have := h1.far (p := ⟨x, 3, none⟩) (fun e => hbx e.symm) (.int .i64 (k : Int))
      simpa [putW, plSet, hbx] using this
  refine ⟨?_, ?_, ?_, ?_, h.gq, ?_⟩
  · rw [List.length_set]
    exact (h.p.far (p := ⟨g, k, none⟩) h.gq _).far (p := ⟨x, 3, none⟩) hxq _
  · intro i hi
    rw [List.length_set] at hi
    rw [hcg]
    by_cases hik : k = i
    · subst hik
      rw [sc_same (h.cell k hk)]
      simp [List.getD_eq_getElem?_getD, hk]
    · rw [sc_other (by intro e; cases e; exact hik rfl), h.cell i hi]
      simp [List.getD_eq_getElem?_getD, List.getElem?_set, hik]
  · intro i hi
    rw [List.length_set] at hi
    simpa [putW] using h.fz i hi
  · intro b hb
    rcases List.mem_or_eq_of_mem_set hb with hb | rfl
    · exact hit b (h.ne b hb).1 (h.item b hb)
    · exact hit b hxg hx
  · intro b hb
    rcases List.mem_or_eq_of_mem_set hb with hb | rfl
    · exact h.ne b hb
    · exact ⟨hxg, hxq⟩
end Go.Proofs.Ytlmnnbmihimedaa
