/- The order of timers, with what it does to the world in full. Conditions: as each theorem states them. -/
import Derived.Test.YtlmnnbmihimedaaS0
import Derived.Test.YtlmnnbmihimedaaE1
namespace Go.Proofs.Ytlmnnbmihimedaa
open Go.RowKit Go.Sort
set_option linter.unusedVariables false
set_option linter.unusedSimpArgs false

/-- Some draws on, and some blocks behind. -/
def Gr (w w' : World) : Prop := ∃ q os, w' = grow (w.drewN q) os
theorem Gr.refl (w : World) : Gr w w := ⟨0, #[], by rw [grow_empty]; rfl⟩
theorem drewN_add (w : World) (a b : Nat) : (w.drewN a).drewN b = w.drewN (a + b) := by
  simp [World.drewN, Nat.add_assoc]
theorem drewN_grow (w : World) (os : Array Obj) (b : Nat) : (grow w os).drewN b = grow (w.drewN b) os := rfl
theorem Gr.trans {a b c : World} (h : Gr a b) (k : Gr b c) : Gr a c := by
  obtain ⟨q, os, rfl⟩ := h
  obtain ⟨q', os', rfl⟩ := k
  exact ⟨q + q', os ++ os', by rw [drewN_grow, drewN_add, grow_grow]⟩
theorem Gr.drewN {a b : World} (h : Gr a b) (n : Nat) : Gr a (b.drewN n) := h.trans ⟨n, #[], by rw [grow_empty]⟩
theorem Gr.drew {a b : World} (h : Gr a b) : Gr a b.drew := h.drewN 1
theorem Gr.alloc {a b : World} (h : Gr a b) (o : Obj) : Gr a (b.alloc o) := h.trans ⟨0, #[o], by rw [alloc_eq_grow]; rfl⟩
set_option maxHeartbeats 1000000 in
theorem or_gr (g : Nat) (x y z : Int) (w : World) (h0 : w.cell? ⟨g, 0, none⟩ = some (.int .i64 x)) (h1 : w.cell? ⟨g, 1, none⟩ = some (.int .i64 y)) (h2 : w.cell? ⟨g, 2, none⟩ = some (.int .i64 z)) :
    Calls Try.prog 28 #[.slice (some ⟨g, 0, none⟩) 3 3] w fun e w' => e = .returned (.int .i64 (orI x y z)) ∧ Below w.heap.size w w' ∧ Gr w w' := by
  unfold orI
  by_cases hx : x = 0
  · subst hx
    by_cases hy : y = 0
    · subst hy
      by_cases hz : z = 0
      · subst hz
        go_enter Try.func28, Try.ntmps28
        go_wp2_with (fail)
        refine wp_loop_rounds 4 ?_
        iterate 4
          rw [rounds_succ]
          go_wp2_with (fail)
        go_ret
        exact ⟨ret_int (by simp), by repeat first | exact Below.refl _ _ | refine Below.drew ?_, by repeat first | exact Gr.refl _ | refine Gr.drew ?_⟩
      · go_enter Try.func28, Try.ntmps28
        go_wp2_with (fail)
        refine wp_loop_rounds 3 ?_
        iterate 3
          rw [rounds_succ]
          go_wp2_with (fail)
        go_ret
        exact ⟨ret_int (by simp), by repeat first | exact Below.refl _ _ | refine Below.drew ?_, by repeat first | exact Gr.refl _ | refine Gr.drew ?_⟩
    · go_enter Try.func28, Try.ntmps28
      go_wp2_with (fail)
      refine wp_loop_rounds 2 ?_
      iterate 2
        rw [rounds_succ]
        go_wp2_with (fail)
      go_ret
      exact ⟨ret_int (by simp [hy]), by repeat first | exact Below.refl _ _ | refine Below.drew ?_, by repeat first | exact Gr.refl _ | refine Gr.drew ?_⟩
  · go_enter Try.func28, Try.ntmps28
    go_wp2_with (fail)
    refine wp_loop_rounds 1 ?_
    rw [rounds_succ]
    go_wp2_with (fail)
    go_ret
    exact ⟨ret_int (by simp [hx]), by repeat first | exact Below.refl _ _ | refine Below.drew ?_, by repeat first | exact Gr.refl _ | refine Gr.drew ?_⟩
set_option maxRecDepth 100000 in
set_option maxHeartbeats 1000000 in
theorem cmp_gr (t1 t2 : Int) (k1 k2 s1 s2 : ByteArray) (w : World) (r : Int) (hr : cmpT ⟨t1, k1, s1⟩ ⟨t2, k2, s2⟩ = r) :
    Calls Try.prog 13 #[.agg #[.int .i64 t1, .string k1, .string s1], .agg #[.int .i64 t2, .string k2, .string s2]] w fun e w' => e = .returned (.int .i64 r) ∧ Gr w w' := by
  subst hr
  unfold cmpT
  dsimp only
  go_enter Try.func13, Try.ntmps13
  go_wp2_with (fail)
  go_region_held3 (fun w' => w'.cell? ⟨w.heap.size, 0, none⟩ = some (.int .i64 t1) ∧ w'.cell? ⟨w.heap.size, 1, none⟩ = some (.string k1) ∧ w'.cell? ⟨w.heap.size, 2, none⟩ = some (.string s1) ∧ w'.cell? ⟨w.heap.size + 1, 0, none⟩ = some (.int .i64 t2) ∧ w'.cell? ⟨w.heap.size + 1, 1, none⟩ = some (.string k2) ∧ w'.cell? ⟨w.heap.size + 1, 2, none⟩ = some (.string s2)) (first | go_keep | exact ⟨(hb5.cell (p := ⟨w.heap.size, 0, none⟩) (by simp <;> omega)).trans (by first | go_keep | go_simp), (hb5.cell (p := ⟨w.heap.size, 1, none⟩) (by simp <;> omega)).trans (by first | go_keep | go_simp), (hb5.cell (p := ⟨w.heap.size, 2, none⟩) (by simp <;> omega)).trans (by first | go_keep | go_simp), (hb5.cell (p := ⟨w.heap.size + 1, 0, none⟩) (by simp <;> omega)).trans (by first | go_keep | go_simp), (hb5.cell (p := ⟨w.heap.size + 1, 1, none⟩) (by simp <;> omega)).trans (by first | go_keep | go_simp), (hb5.cell (p := ⟨w.heap.size + 1, 2, none⟩) (by simp <;> omega)).trans (by first | go_keep | go_simp)⟩)
    (first
      | (go_at_call 29; refine (compare_int _ _ _).mono ?_; rintro e w1 ⟨rfl, rfl⟩)
      | (go_at_call 30; refine (compare_str _ _ _).mono ?_; rintro e w1 ⟨rfl, rfl⟩)
      | (go_at_call 28; refine (or_gr (w.heap.size + 1 + 1) (cmpI t1 t2) (cmpS k1 k2) (cmpS s1 s2) _ (tri_cell _ _ _ _ _ rfl) (tri_cell _ _ _ _ _ rfl) (tri_cell _ _ _ _ _ rfl)).mono ?_; rintro e w5 ⟨rfl, hb5, hg5⟩))
  go_wp2
  go_ret
  refine ⟨rfl, ?_⟩
  repeat first | exact Gr.refl _ | refine Gr.drew ?_ | refine Gr.drewN ?_ _ | refine Gr.alloc ?_ _ | refine Gr.trans ?_ hg5
end Go.Proofs.Ytlmnnbmihimedaa
