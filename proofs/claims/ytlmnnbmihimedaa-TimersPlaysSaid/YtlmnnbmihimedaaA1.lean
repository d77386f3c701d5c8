/- Contracts of the order of timers. Conditions: as each theorem states them. -/
import Derived.Test.YtlmnnbmihimedaaA0
import Derived.Test.YtlmnnbmihimedaaM0
namespace Go.Proofs.Ytlmnnbmihimedaa
open Go.RowKit
set_option linter.unusedVariables false
set_option linter.unusedSimpArgs false

/-- A timer: its time, its key, its space. -/
structure Tm where
  t : Int
  k : ByteArray
  s : ByteArray
def cmpT (a b : Tm) : Int := orI (cmpI a.t b.t) (cmpS a.k b.k) (cmpS a.s b.s)
theorem tri_cell (w : World) (a b : Obj) (cs : Array Value) (t : TypeId) {i : Nat} {v : Value} (h : cs[i]? = some v) : ((((w.alloc a).alloc b).alloc (.cells cs t)).drew).cell? ⟨w.heap.size + 1 + 1, i, none⟩ = some v := by
  have hs : ((w.alloc a).alloc b).heap.size = w.heap.size + 1 + 1 := by simp
  have e : ((((w.alloc a).alloc b).alloc (.cells cs t)).drew).heap[w.heap.size + 1 + 1]? = some (.cells cs t) := by
    rw [← hs]
    exact Array.getElem?_push_size
  simp only [World.cell?, e]
  simpa using h
set_option maxRecDepth 100000 in
set_option maxHeartbeats 1000000 in
theorem cmp_any (t1 t2 : Int) (k1 k2 s1 s2 : ByteArray) (w : World) (r : Int) (hr : cmpT ⟨t1, k1, s1⟩ ⟨t2, k2, s2⟩ = r) :
    Calls Try.prog 13 #[.agg #[.int .i64 t1, .string k1, .string s1], .agg #[.int .i64 t2, .string k2, .string s2]] w fun e w' => e = .returned (.int .i64 r) ∧ Below w.heap.size w w' := by
  subst hr
  unfold cmpT
  dsimp only
  go_enter Try.func13, Try.ntmps13
  go_wp2_with (fail)
  go_region_held3 (fun w' => w'.cell? ⟨w.heap.size, 0, none⟩ = some (.int .i64 t1) ∧ w'.cell? ⟨w.heap.size, 1, none⟩ = some (.string k1) ∧ w'.cell? ⟨w.heap.size, 2, none⟩ = some (.string s1) ∧ w'.cell? ⟨w.heap.size + 1, 0, none⟩ = some (.int .i64 t2) ∧ w'.cell? ⟨w.heap.size + 1, 1, none⟩ = some (.string k2) ∧ w'.cell? ⟨w.heap.size + 1, 2, none⟩ = some (.string s2)) (first | go_keep | exact ⟨(hb5.cell (p := ⟨w.heap.size, 0, none⟩) (by simp <;> omega)).trans (by first | go_keep | go_simp), (hb5.cell (p := ⟨w.heap.size, 1, none⟩) (by simp <;> omega)).trans (by first | go_keep | go_simp), (hb5.cell (p := ⟨w.heap.size, 2, none⟩) (by simp <;> omega)).trans (by first | go_keep | go_simp), (hb5.cell (p := ⟨w.heap.size + 1, 0, none⟩) (by simp <;> omega)).trans (by first | go_keep | go_simp), (hb5.cell (p := ⟨w.heap.size + 1, 1, none⟩) (by simp <;> omega)).trans (by first | go_keep | go_simp), (hb5.cell (p := ⟨w.heap.size + 1, 2, none⟩) (by simp <;> omega)).trans (by first | go_keep | go_simp)⟩)
    (first
      | (go_at_call 29; refine (compare_int _ _ _).mono ?_; rintro e w1 ⟨rfl, rfl⟩)
      | (go_at_call 30; refine (compare_str _ _ _).mono ?_; rintro e w1 ⟨rfl, rfl⟩)
      | (go_at_call 28; refine (or_any (w.heap.size + 1 + 1) (cmpI t1 t2) (cmpS k1 k2) (cmpS s1 s2) _ (tri_cell _ _ _ _ _ rfl) (tri_cell _ _ _ _ _ rfl) (tri_cell _ _ _ _ _ rfl)).mono ?_; rintro e w5 ⟨rfl, hb5⟩))
  go_wp2
  go_ret
  refine ⟨rfl, ?_⟩
  repeat first | exact Below.refl _ _ | refine Below.drew ?_ | refine bl_drewN ?_ _ | refine bl_alloc ?_ _ | refine bl_then ?_ hb5
end Go.Proofs.Ytlmnnbmihimedaa
