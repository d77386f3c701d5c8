/- Worlds that are as another but for some blocks (Kp); a pile in them. Conditions: as the theorem states them. -/
import Derived.Test.YtlmnnbmihimedaaA4
namespace Go.Proofs.Ytlmnnbmihimedaa
open Go.RowKit
set_option linter.unusedVariables false
set_option linter.unusedSimpArgs false

/-- w' is as w but for the blocks of S and new ones. -/
structure Kw (S : Nat → Prop) (w w' : World) : Prop where
  os : w'.os = w.os
  tape : w'.tape = w.tape
  output : w'.output = w.output
  size : w.heap.size ≤ w'.heap.size
  block : ∀ b, b < w.heap.size → ¬ S b → w'.heap[b]? = w.heap[b]?
theorem Kw.refl (S : Nat → Prop) (w : World) : Kw S w w := ⟨rfl, rfl, rfl, Nat.le_refl _, fun _ _ _ => rfl⟩
theorem Kw.trans {S : Nat → Prop} {a b c : World} (h : Kw S a b) (k : Kw S b c) : Kw S a c :=
  ⟨k.os.trans h.os, k.tape.trans h.tape, k.output.trans h.output, Nat.le_trans h.size k.size, fun i hi hs => (k.block i (Nat.lt_of_lt_of_le hi h.size) hs).trans (h.block i hi hs)⟩
theorem Kw.mono {S T : Nat → Prop} {w w' : World} (h : Kw S w w') (hST : ∀ b, b < w.heap.size → S b → T b) : Kw T w w' :=
  ⟨h.os, h.tape, h.output, h.size, fun i hi hs => h.block i hi (fun hS => hs (hST i hi hS))⟩
theorem Kw.ofBelow {S : Nat → Prop} {w w' : World} (h : Below w.heap.size w w') : Kw S w w' := ⟨h.os, h.tape, h.output, h.size, fun b hb _ => h.block b hb⟩
theorem Kw.setCell {S : Nat → Prop} {a w : World} (h : Kw S a w) {p : Addr} (hp : S p.block) (v : Value) : Kw S a (w.setCell p v) :=
  ⟨h.os, h.tape, h.output, by simpa [World.setCell] using h.size, fun b hb hs => (Below.heap_setCell w p v b (fun e => hs (e ▸ hp))).trans (h.block b hb hs)⟩
theorem Kw.drew {S : Nat → Prop} {a w : World} (h : Kw S a w) : Kw S a w.drew := ⟨h.os, h.tape, h.output, h.size, h.block⟩
theorem Kw.drewN {S : Nat → Prop} {a w : World} (h : Kw S a w) (n : Nat) : Kw S a (w.drewN n) := h.trans (Kw.ofBelow (bl_drewN (Below.refl _ _) n))
theorem Kw.alloc {S : Nat → Prop} {a w : World} (h : Kw S a w) (o : Obj) : Kw S a (w.alloc o) := h.trans (Kw.ofBelow (bl_alloc (Below.refl _ _) o))
theorem Kw.grown {S : Nat → Prop} {a w w' : World} {row : Option Nat} (h : Kw S a w) (g : w.grownBy w' row) (hr : ∀ k, row = some k → S k) : Kw S a w' :=
  h.trans ⟨g.os, g.tape, g.output, g.size, fun i hi hs => g.block i hi (fun e => hs (hr i e.symm))⟩
theorem Kw.below {S : Nat → Prop} {w w' : World} {B : Nat} (h : Kw S w w') (hB : B ≤ w.heap.size) (hS : ∀ b, S b → B ≤ b) : Below B w w' :=
  ⟨h.os, h.tape, h.output, h.size, fun b hb => h.block b (by omega) (fun hs => by have := hS b hs; omega)⟩
theorem Kw.cell {S : Nat → Prop} {w w' : World} (h : Kw S w w') {b i : Nat} (hb : b < w.heap.size) (hs : ¬ S b) : w'.cell? ⟨b, i, none⟩ = w.cell? ⟨b, i, none⟩ := World.cell?_of_block (h.block b hb hs)
theorem Kw.frozen {S : Nat → Prop} {w w' : World} (h : Kw S w w') {b i : Nat} (hb : b < w.heap.size) (hs : ¬ S b) : w'.frozen? ⟨b, i, none⟩ = w.frozen? ⟨b, i, none⟩ := World.frozen?_of_block (h.block b hb hs)
/-- Rows of cells stay rows of as many cells, of the same type. -/
def Shp (w w' : World) : Prop := ∀ (b : Nat) (cur : Array Value) (t : TypeId) (fz : Nat × Nat), w.heap[b]? = some (Obj.cells cur t fz) → ∃ cur' : Array Value, w'.heap[b]? = some (Obj.cells cur' t fz) ∧ cur'.size = cur.size
theorem Shp.refl (w : World) : Shp w w := fun _ cur _ _ h => ⟨cur, h, rfl⟩
theorem Shp.trans {a b c : World} (h : Shp a b) (k : Shp b c) : Shp a c := fun i cur t fz hi => by
  obtain ⟨c1, h1, e1⟩ := h i cur t fz hi
  obtain ⟨c2, h2, e2⟩ := k i c1 t fz h1
  exact ⟨c2, h2, e2.trans e1⟩
theorem Shp.setCell (w : World) (p : Addr) (v : Value) : Shp w (w.setCell p v) := fun b cur t fz h => by
  by_cases hb : b = p.block
  · subst hb
    have hl := (Array.getElem?_eq_some_iff.1 h).1
    refine ⟨if p.spot.isSome then cur else cur.setIfInBounds p.off v, ?_, by split <;> simp⟩
    have h2 := (Array.getElem?_eq_some_iff.1 h).2
    simp only [World.setCell]
    rw [Array.getElem?_eq_getElem (by simpa using hl), Array.getElem_modify_self, h2]
  · exact ⟨cur, (Below.heap_setCell w p v b hb).trans h, rfl⟩
theorem Shp.ofBelow {w w' : World} (h : Below w.heap.size w w') : Shp w w' := fun b cur t fz hb =>
  ⟨cur, (h.block b (Array.getElem?_eq_some_iff.1 hb).1).trans hb, rfl⟩
structure Kp (S : Nat → Prop) (w w' : World) : Prop extends Kw S w w' where
  shape : Shp w w'
theorem Kp.refl (S : Nat → Prop) (w : World) : Kp S w w := ⟨Kw.refl S w, Shp.refl w⟩
theorem Kp.trans {S : Nat → Prop} {a b c : World} (h : Kp S a b) (k : Kp S b c) : Kp S a c := ⟨h.toKw.trans k.toKw, h.shape.trans k.shape⟩
theorem Kp.ofBelow {S : Nat → Prop} {w w' : World} (h : Below w.heap.size w w') : Kp S w w' := ⟨Kw.ofBelow h, Shp.ofBelow h⟩
theorem Kp.setCell {S : Nat → Prop} {a w : World} (h : Kp S a w) {p : Addr} (hp : S p.block) (v : Value) : Kp S a (w.setCell p v) :=
  ⟨h.toKw.setCell hp v, h.shape.trans (Shp.setCell w p v)⟩
theorem Pile.below {w w' : World} {q g c : Nat} {bs : List Nat} {tm : Nat → Tm} {pl : Nat → Int} (h : Pile w q g c bs tm pl) (hb : Below w.heap.size w w') : Pile w' q g c bs tm pl := by
  have hc : ∀ b i, b < w.heap.size → w'.cell? ⟨b, i, none⟩ = w.cell? ⟨b, i, none⟩ := fun b i hl => hb.cell (p := ⟨b, i, none⟩) hl
  have hf : ∀ b i, b < w.heap.size → w'.frozen? ⟨b, i, none⟩ = w.frozen? ⟨b, i, none⟩ := fun b i hl => hb.frozen (p := ⟨b, i, none⟩) hl
  obtain ⟨⟨p0, p1, p2, p3, p4⟩, h2, h3, h4, h5, h6⟩ := h
  have hsz := hb.size
  refine ⟨⟨(hc q 0 p3).trans p0, (hc q 1 p3).trans p1, (hc q 2 p3).trans p2, by omega, by omega⟩, fun i hi => (hc g i p4).trans (h2 i hi), fun i hi => (hf g i p4).trans (h3 i hi), fun b hb => ?_, h5, h6⟩
  obtain ⟨c0, c1, c2, c3, fz, lt⟩ := h4 b hb
  exact ⟨(hc b 0 lt).trans c0, (hc b 1 lt).trans c1, (hc b 2 lt).trans c2, (hc b 3 lt).trans c3, (hf b 3 lt).trans fz, by omega⟩
end Go.Proofs.Ytlmnnbmihimedaa
