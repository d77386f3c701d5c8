/- The contract of pile.put. Conditions: as the theorem states them. -/
import Derived.Test.YtlmnnbmihimedaaA2
namespace Go.Proofs.Ytlmnnbmihimedaa
open Go.RowKit
set_option linter.unusedVariables false
set_option linter.unusedSimpArgs false

/-- Block q holds a pile over the row g of n pointers. -/
structure PileAt (w : World) (q g n c : Nat) : Prop where
  l : w.cell? ⟨q, 0, none⟩ = some (.slice (some ⟨g, 0, none⟩) n c)
  less : w.cell? ⟨q, 1, none⟩ = some (.func (.func 34) #[] #[])
  moved : w.cell? ⟨q, 2, none⟩ = some (.func (.func 35) #[] #[])
  lt : q < w.heap.size
  gl : g < w.heap.size
theorem ItemAt.far {w : World} {b : Nat} {x : Tm} {pl : Int} (h : ItemAt w b x pl) {p : Addr} (hne : p.block ≠ b) (v : Value) : ItemAt (w.setCell p v) b x pl := by
  have hh : (w.setCell p v).heap[b]? = w.heap[b]? := Below.heap_setCell w p v b (fun h => hne h.symm)
  have hc : ∀ i, (w.setCell p v).cell? ⟨b, i, none⟩ = w.cell? ⟨b, i, none⟩ := fun i => World.cell?_of_block hh
  have hf : (w.setCell p v).frozen? ⟨b, 3, none⟩ = w.frozen? ⟨b, 3, none⟩ := World.frozen?_of_block hh
  obtain ⟨c0, c1, c2, c3, fz, lt⟩ := h
  exact ⟨(hc 0).trans c0, (hc 1).trans c1, (hc 2).trans c2, (hc 3).trans c3, hf.trans fz, by simpa [World.setCell] using lt⟩
set_option maxHeartbeats 1000000 in
theorem put_any (q g n c x k : Nat) (tx : Tm) (px : Int) (u : Value) (w : World) (hp : PileAt w q g n c) (hk : k < n) (hx : ItemAt w x tx px) (hu : w.cell? ⟨g, k, none⟩ = some u) (hf : w.frozen? ⟨g, k, none⟩ = false) (hgx : g ≠ x) (hgq : g ≠ q) (hn : n ≤ 1000000) :
    Calls Try.prog 40 #[.pointer (some ⟨q, 0, none⟩), .pointer (some ⟨x, 0, none⟩), .int .i64 k] w fun e w' => e = .returned (.tuple #[]) ∧ w' = (w.setCell ⟨g, k, none⟩ (.pointer (some ⟨x, 0, none⟩))).setCell ⟨x, 3, none⟩ (.int .i64 k) := by
  obtain ⟨l0, l1, l2, ql, gl⟩ := hp
  have hk0 : (0 : Int) ≤ (k : Int) := by omega
  have hk1 : (k : Int) < (n : Int) := by omega
  have HX := Lib.hid hx
  clear hx
  go_enter Try.func40, Try.ntmps40
  go_wp2_with (fail)
  refine (moved_any x tx px k _ (HX.out.far (p := ⟨g, k, none⟩) hgx _)).mono ?_
  rintro e w1 ⟨rfl, rfl⟩
  go_wp2
  go_end0
  exact ⟨rfl, rfl⟩
end Go.Proofs.Ytlmnnbmihimedaa
