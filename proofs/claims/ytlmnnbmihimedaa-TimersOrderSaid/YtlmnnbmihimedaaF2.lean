/- The walk of the law TimersOrder, where the first is ahead of the second, or they are level. Conditions: as the theorem states them. -/
import Derived.Test.YtlmnnbmihimedaaF1
namespace Go.Proofs.Ytlmnnbmihimedaa
open Go.RowKit Go.Maps
set_option linter.unusedVariables false
set_option linter.unusedSimpArgs false

set_option maxRecDepth 100000 in
set_option maxHeartbeats 2000000 in
theorem order_mmmt (t1 : Int) (k1 s1 : ByteArray) (t2 : Int) (k2 : ByteArray) (s2 : ByteArray) (t3 : Int) (k3 s3 : ByteArray) (W : World) (hne : ¬ t1 = t2) (hx : cmpT ⟨t1, k1, s1⟩ ⟨t2, k2, s2⟩ = (-1)) (hy : cmpT ⟨t2, k2, s2⟩ ⟨t3, k3, s3⟩ = (-1)) (hz : cmpT ⟨t1, k1, s1⟩ ⟨t3, k3, s3⟩ = (-1)) :
    Calls Try.prog 4 #[.agg #[.int .i64 t1, .string k1, .string s1], .agg #[.int .i64 t2, .string k2, .string s2], .agg #[.int .i64 t3, .string k3, .string s3]] W fun e w' => e = .returned (.bool true) ∧ Below W.heap.size W w' := by
  have H13 : Hid (∀ (t1 : Int) (k1 s1 : ByteArray) (t2 : Int) (k2 s2 : ByteArray) w, Calls Try.prog 13 #[.agg #[.int .i64 t1, .string k1, .string s1], .agg #[.int .i64 t2, .string k2, .string s2]] w fun e w' => e = .returned (.int .i64 (cmpT ⟨t1, k1, s1⟩ ⟨t2, k2, s2⟩)) ∧ Below w.heap.size w w') := Lib.hid fun t1 k1 s1 t2 k2 s2 w => cmp_any _ _ _ _ _ _ w _ rfl
  have H13b : Hid (∀ w, Calls Try.prog 13 #[.agg #[.int .i64 t2, .string k2, .string s2], .agg #[.int .i64 t1, .string k1, .string s1]] w fun e w' => e = .returned (.int .i64 (1)) ∧ Below w.heap.size w w') := Lib.hid fun w => cmp_any _ _ _ _ _ _ w _ (by have := cmpT_neg ⟨t1, k1, s1⟩ ⟨t2, k2, s2⟩; rw [hx] at this; omega)
  have H13c : Hid (∀ w, Calls Try.prog 13 #[.agg #[.int .i64 t1, .string k1, .string s1], .agg #[.int .i64 t1, .string k1, .string s1]] w fun e w' => e = .returned (.int .i64 0) ∧ Below w.heap.size w w') := Lib.hid fun w => cmp_any _ _ _ _ _ _ w _ (cmpT_zero.2 rfl)
  have HX := Lib.hid hx
  have HY := Lib.hid hy
  have HZ := Lib.hid hz
  clear hx hy hz
  go_enter Try.func4, Try.ntmps4
  go_wp2_with (fail)
  have hbl : Below W.heap.size W (((W.alloc (Obj.cells #[.int .i64 t1, .string k1, .string s1] 23)).alloc (Obj.cells #[.int .i64 t2, .string k2, .string s2] 23)).alloc (Obj.cells #[.int .i64 t3, .string k3, .string s3] 23)) := bl_alloc (bl_alloc (bl_alloc (Below.refl _ _) _) _) _
  have c0 : (((W.alloc (Obj.cells #[.int .i64 t1, .string k1, .string s1] 23)).alloc (Obj.cells #[.int .i64 t2, .string k2, .string s2] 23)).alloc (Obj.cells #[.int .i64 t3, .string k3, .string s3] 23)).cell? ⟨W.heap.size, 0, none⟩ = some (.int .i64 t1) := by go_keep
  have c1 : (((W.alloc (Obj.cells #[.int .i64 t1, .string k1, .string s1] 23)).alloc (Obj.cells #[.int .i64 t2, .string k2, .string s2] 23)).alloc (Obj.cells #[.int .i64 t3, .string k3, .string s3] 23)).cell? ⟨W.heap.size, 1, none⟩ = some (.string k1) := by go_keep
  have c2 : (((W.alloc (Obj.cells #[.int .i64 t1, .string k1, .string s1] 23)).alloc (Obj.cells #[.int .i64 t2, .string k2, .string s2] 23)).alloc (Obj.cells #[.int .i64 t3, .string k3, .string s3] 23)).cell? ⟨W.heap.size, 2, none⟩ = some (.string s1) := by go_keep
  have d0 : (((W.alloc (Obj.cells #[.int .i64 t1, .string k1, .string s1] 23)).alloc (Obj.cells #[.int .i64 t2, .string k2, .string s2] 23)).alloc (Obj.cells #[.int .i64 t3, .string k3, .string s3] 23)).cell? ⟨W.heap.size + 1, 0, none⟩ = some (.int .i64 t2) := by go_keep
  have d1 : (((W.alloc (Obj.cells #[.int .i64 t1, .string k1, .string s1] 23)).alloc (Obj.cells #[.int .i64 t2, .string k2, .string s2] 23)).alloc (Obj.cells #[.int .i64 t3, .string k3, .string s3] 23)).cell? ⟨W.heap.size + 1, 1, none⟩ = some (.string k2) := by go_keep
  have d2 : (((W.alloc (Obj.cells #[.int .i64 t1, .string k1, .string s1] 23)).alloc (Obj.cells #[.int .i64 t2, .string k2, .string s2] 23)).alloc (Obj.cells #[.int .i64 t3, .string k3, .string s3] 23)).cell? ⟨W.heap.size + 1, 2, none⟩ = some (.string s2) := by go_keep
  have g0 : (((W.alloc (Obj.cells #[.int .i64 t1, .string k1, .string s1] 23)).alloc (Obj.cells #[.int .i64 t2, .string k2, .string s2] 23)).alloc (Obj.cells #[.int .i64 t3, .string k3, .string s3] 23)).cell? ⟨W.heap.size + 1 + 1, 0, none⟩ = some (.int .i64 t3) := tri_cell _ _ _ _ _ rfl
  have g1 : (((W.alloc (Obj.cells #[.int .i64 t1, .string k1, .string s1] 23)).alloc (Obj.cells #[.int .i64 t2, .string k2, .string s2] 23)).alloc (Obj.cells #[.int .i64 t3, .string k3, .string s3] 23)).cell? ⟨W.heap.size + 1 + 1, 1, none⟩ = some (.string k3) := tri_cell _ _ _ _ _ rfl
  have g2 : (((W.alloc (Obj.cells #[.int .i64 t1, .string k1, .string s1] 23)).alloc (Obj.cells #[.int .i64 t2, .string k2, .string s2] 23)).alloc (Obj.cells #[.int .i64 t3, .string k3, .string s3] 23)).cell? ⟨W.heap.size + 1 + 1, 2, none⟩ = some (.string s3) := tri_cell _ _ _ _ _ rfl
  have l0 : W.heap.size + 1 + 1 < (((W.alloc (Obj.cells #[.int .i64 t1, .string k1, .string s1] 23)).alloc (Obj.cells #[.int .i64 t2, .string k2, .string s2] 23)).alloc (Obj.cells #[.int .i64 t3, .string k3, .string s3] 23)).heap.size := by simp
  generalize (((W.alloc (Obj.cells #[.int .i64 t1, .string k1, .string s1] 23)).alloc (Obj.cells #[.int .i64 t2, .string k2, .string s2] 23)).alloc (Obj.cells #[.int .i64 t3, .string k3, .string s3] 23)) = w1 at *
  have e0 := ext_cell c0
  have e1 := ext_cell c1
  have e2 := ext_cell c2
  have f0 := ext_cell d0
  have f1 := ext_cell d1
  have f2 := ext_cell d2
  have q0 := ext_cell g0
  have q1 := ext_cell g1
  have q2 := ext_cell g2
  refine wp_region_ext (by kernel_rfl) (by kernel_rfl) ?_
  repeat (go_big_quiet_step ((go_at_call 13; exact ext_calls (H13.out _ _ _ _ _ _ _))))
  refine wpQuiet_nil ?_
  rintro w2 ⟨⟨_, hb2⟩, rfl⟩
  simp only [HX.out, HY.out, HZ.out]
  have hs2 := hb2.size
  have c0 : w2.cell? ⟨W.heap.size, 0, none⟩ = some (.int .i64 t1) := (hb2.cell (p := ⟨W.heap.size, 0, none⟩) (show W.heap.size < w1.heap.size by omega)).trans c0
  have c1 : w2.cell? ⟨W.heap.size, 1, none⟩ = some (.string k1) := (hb2.cell (p := ⟨W.heap.size, 1, none⟩) (show W.heap.size < w1.heap.size by omega)).trans c1
  have c2 : w2.cell? ⟨W.heap.size, 2, none⟩ = some (.string s1) := (hb2.cell (p := ⟨W.heap.size, 2, none⟩) (show W.heap.size < w1.heap.size by omega)).trans c2
  have d0 : w2.cell? ⟨W.heap.size + 1, 0, none⟩ = some (.int .i64 t2) := (hb2.cell (p := ⟨W.heap.size + 1, 0, none⟩) (show W.heap.size + 1 < w1.heap.size by omega)).trans d0
  have d1 : w2.cell? ⟨W.heap.size + 1, 1, none⟩ = some (.string k2) := (hb2.cell (p := ⟨W.heap.size + 1, 1, none⟩) (show W.heap.size + 1 < w1.heap.size by omega)).trans d1
  have d2 : w2.cell? ⟨W.heap.size + 1, 2, none⟩ = some (.string s2) := (hb2.cell (p := ⟨W.heap.size + 1, 2, none⟩) (show W.heap.size + 1 < w1.heap.size by omega)).trans d2
  have l1 : W.heap.size < w2.heap.size := by omega
  have l2 : W.heap.size + 1 < w2.heap.size := by omega
  clear e0 e1 e2 f0 f1 f2 q0 q1 q2 g0 g1 g2
  go_wp2_with (fail)
  refine (H13b.out _).mono ?_
  rintro e w3 ⟨rfl, hb3⟩
  have hs3 := hb3.size
  have c0 : w3.cell? ⟨W.heap.size, 0, none⟩ = some (.int .i64 t1) := (hb3.cell (p := ⟨W.heap.size, 0, none⟩) l1).trans c0
  have c1 : w3.cell? ⟨W.heap.size, 1, none⟩ = some (.string k1) := (hb3.cell (p := ⟨W.heap.size, 1, none⟩) l1).trans c1
  have c2 : w3.cell? ⟨W.heap.size, 2, none⟩ = some (.string s1) := (hb3.cell (p := ⟨W.heap.size, 2, none⟩) l1).trans c2
  have d0 : w3.cell? ⟨W.heap.size + 1, 0, none⟩ = some (.int .i64 t2) := (hb3.cell (p := ⟨W.heap.size + 1, 0, none⟩) l2).trans d0
  have d1 : w3.cell? ⟨W.heap.size + 1, 1, none⟩ = some (.string k2) := (hb3.cell (p := ⟨W.heap.size + 1, 1, none⟩) l2).trans d1
  have d2 : w3.cell? ⟨W.heap.size + 1, 2, none⟩ = some (.string s2) := (hb3.cell (p := ⟨W.heap.size + 1, 2, none⟩) l2).trans d2
  have l3 : W.heap.size < w3.heap.size := by omega
  have l4 : W.heap.size + 1 < w3.heap.size := by omega
  go_wp2_with (fail)
  refine (H13c.out _).mono ?_
  rintro e w4 ⟨rfl, hb4⟩
  go_wp2_with (fail)
  refine (awake_any _).mono ?_
  rintro e w5 ⟨rfl, hb5⟩
  go_wp2_with (fail)
  go_ret
  exact ⟨rfl, bl_then (bl_then (bl_then (bl_then hbl hb2) hb3) hb4) hb5⟩
set_option maxRecDepth 100000 in
set_option maxHeartbeats 2000000 in
theorem order_mmmk (t1 : Int) (k1 s1 : ByteArray) (k2 : ByteArray) (s2 : ByteArray) (t3 : Int) (k3 s3 : ByteArray) (W : World) (hne : (k1.toList == k2.toList) = false) (hx : cmpT ⟨t1, k1, s1⟩ ⟨t1, k2, s2⟩ = (-1)) (hy : cmpT ⟨t1, k2, s2⟩ ⟨t3, k3, s3⟩ = (-1)) (hz : cmpT ⟨t1, k1, s1⟩ ⟨t3, k3, s3⟩ = (-1)) :
    Calls Try.prog 4 #[.agg #[.int .i64 t1, .string k1, .string s1], .agg #[.int .i64 t1, .string k2, .string s2], .agg #[.int .i64 t3, .string k3, .string s3]] W fun e w' => e = .returned (.bool true) ∧ Below W.heap.size W w' := by
  have H13 : Hid (∀ (t1 : Int) (k1 s1 : ByteArray) (t2 : Int) (k2 s2 : ByteArray) w, Calls Try.prog 13 #[.agg #[.int .i64 t1, .string k1, .string s1], .agg #[.int .i64 t2, .string k2, .string s2]] w fun e w' => e = .returned (.int .i64 (cmpT ⟨t1, k1, s1⟩ ⟨t2, k2, s2⟩)) ∧ Below w.heap.size w w') := Lib.hid fun t1 k1 s1 t2 k2 s2 w => cmp_any _ _ _ _ _ _ w _ rfl
  have H13b : Hid (∀ w, Calls Try.prog 13 #[.agg #[.int .i64 t1, .string k2, .string s2], .agg #[.int .i64 t1, .string k1, .string s1]] w fun e w' => e = .returned (.int .i64 (1)) ∧ Below w.heap.size w w') := Lib.hid fun w => cmp_any _ _ _ _ _ _ w _ (by have := cmpT_neg ⟨t1, k1, s1⟩ ⟨t1, k2, s2⟩; rw [hx] at this; omega)
  have H13c : Hid (∀ w, Calls Try.prog 13 #[.agg #[.int .i64 t1, .string k1, .string s1], .agg #[.int .i64 t1, .string k1, .string s1]] w fun e w' => e = .returned (.int .i64 0) ∧ Below w.heap.size w w') := Lib.hid fun w => cmp_any _ _ _ _ _ _ w _ (cmpT_zero.2 rfl)
  have HX := Lib.hid hx
  have HY := Lib.hid hy
  have HZ := Lib.hid hz
  clear hx hy hz
  go_enter Try.func4, Try.ntmps4
  go_wp2_with (fail)
  have hbl : Below W.heap.size W (((W.alloc (Obj.cells #[.int .i64 t1, .string k1, .string s1] 23)).alloc (Obj.cells #[.int .i64 t1, .string k2, .string s2] 23)).alloc (Obj.cells #[.int .i64 t3, .string k3, .string s3] 23)) := bl_alloc (bl_alloc (bl_alloc (Below.refl _ _) _) _) _
  have c0 : (((W.alloc (Obj.cells #[.int .i64 t1, .string k1, .string s1] 23)).alloc (Obj.cells #[.int .i64 t1, .string k2, .string s2] 23)).alloc (Obj.cells #[.int .i64 t3, .string k3, .string s3] 23)).cell? ⟨W.heap.size, 0, none⟩ = some (.int .i64 t1) := by go_keep
  have c1 : (((W.alloc (Obj.cells #[.int .i64 t1, .string k1, .string s1] 23)).alloc (Obj.cells #[.int .i64 t1, .string k2, .string s2] 23)).alloc (Obj.cells #[.int .i64 t3, .string k3, .string s3] 23)).cell? ⟨W.heap.size, 1, none⟩ = some (.string k1) := by go_keep
  have c2 : (((W.alloc (Obj.cells #[.int .i64 t1, .string k1, .string s1] 23)).alloc (Obj.cells #[.int .i64 t1, .string k2, .string s2] 23)).alloc (Obj.cells #[.int .i64 t3, .string k3, .string s3] 23)).cell? ⟨W.heap.size, 2, none⟩ = some (.string s1) := by go_keep
  have d0 : (((W.alloc (Obj.cells #[.int .i64 t1, .string k1, .string s1] 23)).alloc (Obj.cells #[.int .i64 t1, .string k2, .string s2] 23)).alloc (Obj.cells #[.int .i64 t3, .string k3, .string s3] 23)).cell? ⟨W.heap.size + 1, 0, none⟩ = some (.int .i64 t1) := by go_keep
  have d1 : (((W.alloc (Obj.cells #[.int .i64 t1, .string k1, .string s1] 23)).alloc (Obj.cells #[.int .i64 t1, .string k2, .string s2] 23)).alloc (Obj.cells #[.int .i64 t3, .string k3, .string s3] 23)).cell? ⟨W.heap.size + 1, 1, none⟩ = some (.string k2) := by go_keep
  have d2 : (((W.alloc (Obj.cells #[.int .i64 t1, .string k1, .string s1] 23)).alloc (Obj.cells #[.int .i64 t1, .string k2, .string s2] 23)).alloc (Obj.cells #[.int .i64 t3, .string k3, .string s3] 23)).cell? ⟨W.heap.size + 1, 2, none⟩ = some (.string s2) := by go_keep
  have g0 : (((W.alloc (Obj.cells #[.int .i64 t1, .string k1, .string s1] 23)).alloc (Obj.cells #[.int .i64 t1, .string k2, .string s2] 23)).alloc (Obj.cells #[.int .i64 t3, .string k3, .string s3] 23)).cell? ⟨W.heap.size + 1 + 1, 0, none⟩ = some (.int .i64 t3) := tri_cell _ _ _ _ _ rfl
  have g1 : (((W.alloc (Obj.cells #[.int .i64 t1, .string k1, .string s1] 23)).alloc (Obj.cells #[.int .i64 t1, .string k2, .string s2] 23)).alloc (Obj.cells #[.int .i64 t3, .string k3, .string s3] 23)).cell? ⟨W.heap.size + 1 + 1, 1, none⟩ = some (.string k3) := tri_cell _ _ _ _ _ rfl
  have g2 : (((W.alloc (Obj.cells #[.int .i64 t1, .string k1, .string s1] 23)).alloc (Obj.cells #[.int .i64 t1, .string k2, .string s2] 23)).alloc (Obj.cells #[.int .i64 t3, .string k3, .string s3] 23)).cell? ⟨W.heap.size + 1 + 1, 2, none⟩ = some (.string s3) := tri_cell _ _ _ _ _ rfl
  have l0 : W.heap.size + 1 + 1 < (((W.alloc (Obj.cells #[.int .i64 t1, .string k1, .string s1] 23)).alloc (Obj.cells #[.int .i64 t1, .string k2, .string s2] 23)).alloc (Obj.cells #[.int .i64 t3, .string k3, .string s3] 23)).heap.size := by simp
  generalize (((W.alloc (Obj.cells #[.int .i64 t1, .string k1, .string s1] 23)).alloc (Obj.cells #[.int .i64 t1, .string k2, .string s2] 23)).alloc (Obj.cells #[.int .i64 t3, .string k3, .string s3] 23)) = w1 at *
  have e0 := ext_cell c0
  have e1 := ext_cell c1
  have e2 := ext_cell c2
  have f0 := ext_cell d0
  have f1 := ext_cell d1
  have f2 := ext_cell d2
  have q0 := ext_cell g0
  have q1 := ext_cell g1
  have q2 := ext_cell g2
  refine wp_region_ext (by kernel_rfl) (by kernel_rfl) ?_
  repeat (go_big_quiet_step ((go_at_call 13; exact ext_calls (H13.out _ _ _ _ _ _ _))))
  refine wpQuiet_nil ?_
  rintro w2 ⟨⟨_, hb2⟩, rfl⟩
  simp only [HX.out, HY.out, HZ.out]
  have hs2 := hb2.size
  have c0 : w2.cell? ⟨W.heap.size, 0, none⟩ = some (.int .i64 t1) := (hb2.cell (p := ⟨W.heap.size, 0, none⟩) (show W.heap.size < w1.heap.size by omega)).trans c0
  have c1 : w2.cell? ⟨W.heap.size, 1, none⟩ = some (.string k1) := (hb2.cell (p := ⟨W.heap.size, 1, none⟩) (show W.heap.size < w1.heap.size by omega)).trans c1
  have c2 : w2.cell? ⟨W.heap.size, 2, none⟩ = some (.string s1) := (hb2.cell (p := ⟨W.heap.size, 2, none⟩) (show W.heap.size < w1.heap.size by omega)).trans c2
  have d0 : w2.cell? ⟨W.heap.size + 1, 0, none⟩ = some (.int .i64 t1) := (hb2.cell (p := ⟨W.heap.size + 1, 0, none⟩) (show W.heap.size + 1 < w1.heap.size by omega)).trans d0
  have d1 : w2.cell? ⟨W.heap.size + 1, 1, none⟩ = some (.string k2) := (hb2.cell (p := ⟨W.heap.size + 1, 1, none⟩) (show W.heap.size + 1 < w1.heap.size by omega)).trans d1
  have d2 : w2.cell? ⟨W.heap.size + 1, 2, none⟩ = some (.string s2) := (hb2.cell (p := ⟨W.heap.size + 1, 2, none⟩) (show W.heap.size + 1 < w1.heap.size by omega)).trans d2
  have l1 : W.heap.size < w2.heap.size := by omega
  have l2 : W.heap.size + 1 < w2.heap.size := by omega
  clear e0 e1 e2 f0 f1 f2 q0 q1 q2 g0 g1 g2
  go_wp2_with (fail)
  refine (H13b.out _).mono ?_
  rintro e w3 ⟨rfl, hb3⟩
  have hs3 := hb3.size
  have c0 : w3.cell? ⟨W.heap.size, 0, none⟩ = some (.int .i64 t1) := (hb3.cell (p := ⟨W.heap.size, 0, none⟩) l1).trans c0
  have c1 : w3.cell? ⟨W.heap.size, 1, none⟩ = some (.string k1) := (hb3.cell (p := ⟨W.heap.size, 1, none⟩) l1).trans c1
  have c2 : w3.cell? ⟨W.heap.size, 2, none⟩ = some (.string s1) := (hb3.cell (p := ⟨W.heap.size, 2, none⟩) l1).trans c2
  have d0 : w3.cell? ⟨W.heap.size + 1, 0, none⟩ = some (.int .i64 t1) := (hb3.cell (p := ⟨W.heap.size + 1, 0, none⟩) l2).trans d0
  have d1 : w3.cell? ⟨W.heap.size + 1, 1, none⟩ = some (.string k2) := (hb3.cell (p := ⟨W.heap.size + 1, 1, none⟩) l2).trans d1
  have d2 : w3.cell? ⟨W.heap.size + 1, 2, none⟩ = some (.string s2) := (hb3.cell (p := ⟨W.heap.size + 1, 2, none⟩) l2).trans d2
  have l3 : W.heap.size < w3.heap.size := by omega
  have l4 : W.heap.size + 1 < w3.heap.size := by omega
  go_wp2_with (fail)
  refine (H13c.out _).mono ?_
  rintro e w4 ⟨rfl, hb4⟩
  go_wp2_with (fail)
  refine (awake_any _).mono ?_
  rintro e w5 ⟨rfl, hb5⟩
  go_wp2_with (fail)
  go_ret
  exact ⟨rfl, bl_then (bl_then (bl_then (bl_then hbl hb2) hb3) hb4) hb5⟩
set_option maxRecDepth 100000 in
set_option maxHeartbeats 2000000 in
theorem order_mmms (t1 : Int) (k1 s1 : ByteArray) (s2 : ByteArray) (t3 : Int) (k3 s3 : ByteArray) (W : World) (hne : (s1.toList == s2.toList) = false) (hx : cmpT ⟨t1, k1, s1⟩ ⟨t1, k1, s2⟩ = (-1)) (hy : cmpT ⟨t1, k1, s2⟩ ⟨t3, k3, s3⟩ = (-1)) (hz : cmpT ⟨t1, k1, s1⟩ ⟨t3, k3, s3⟩ = (-1)) :
    Calls Try.prog 4 #[.agg #[.int .i64 t1, .string k1, .string s1], .agg #[.int .i64 t1, .string k1, .string s2], .agg #[.int .i64 t3, .string k3, .string s3]] W fun e w' => e = .returned (.bool true) ∧ Below W.heap.size W w' := by
  have H13 : Hid (∀ (t1 : Int) (k1 s1 : ByteArray) (t2 : Int) (k2 s2 : ByteArray) w, Calls Try.prog 13 #[.agg #[.int .i64 t1, .string k1, .string s1], .agg #[.int .i64 t2, .string k2, .string s2]] w fun e w' => e = .returned (.int .i64 (cmpT ⟨t1, k1, s1⟩ ⟨t2, k2, s2⟩)) ∧ Below w.heap.size w w') := Lib.hid fun t1 k1 s1 t2 k2 s2 w => cmp_any _ _ _ _ _ _ w _ rfl
  have H13b : Hid (∀ w, Calls Try.prog 13 #[.agg #[.int .i64 t1, .string k1, .string s2], .agg #[.int .i64 t1, .string k1, .string s1]] w fun e w' => e = .returned (.int .i64 (1)) ∧ Below w.heap.size w w') := Lib.hid fun w => cmp_any _ _ _ _ _ _ w _ (by have := cmpT_neg ⟨t1, k1, s1⟩ ⟨t1, k1, s2⟩; rw [hx] at this; omega)
  have H13c : Hid (∀ w, Calls Try.prog 13 #[.agg #[.int .i64 t1, .string k1, .string s1], .agg #[.int .i64 t1, .string k1, .string s1]] w fun e w' => e = .returned (.int .i64 0) ∧ Below w.heap.size w w') := Lib.hid fun w => cmp_any _ _ _ _ _ _ w _ (cmpT_zero.2 rfl)
  have HX := Lib.hid hx
  have HY := Lib.hid hy
  have HZ := Lib.hid hz
  clear hx hy hz
  go_enter Try.func4, Try.ntmps4
  go_wp2_with (fail)
  have hbl : Below W.heap.size W (((W.alloc (Obj.cells #[.int .i64 t1, .string k1, .string s1] 23)).alloc (Obj.cells #[.int .i64 t1, .string k1, .string s2] 23)).alloc (Obj.cells #[.int .i64 t3, .string k3, .string s3] 23)) := bl_alloc (bl_alloc (bl_alloc (Below.refl _ _) _) _) _
  have c0 : (((W.alloc (Obj.cells #[.int .i64 t1, .string k1, .string s1] 23)).alloc (Obj.cells #[.int .i64 t1, .string k1, .string s2] 23)).alloc (Obj.cells #[.int .i64 t3, .string k3, .string s3] 23)).cell? ⟨W.heap.size, 0, none⟩ = some (.int .i64 t1) := by go_keep
  have c1 : (((W.alloc (Obj.cells #[.int .i64 t1, .string k1, .string s1] 23)).alloc (Obj.cells #[.int .i64 t1, .string k1, .string s2] 23)).alloc (Obj.cells #[.int .i64 t3, .string k3, .string s3] 23)).cell? ⟨W.heap.size, 1, none⟩ = some (.string k1) := by go_keep
  have c2 : (((W.alloc (Obj.cells #[.int .i64 t1, .string k1, .string s1] 23)).alloc (Obj.cells #[.int .i64 t1, .string k1, .string s2] 23)).alloc (Obj.cells #[.int .i64 t3, .string k3, .string s3] 23)).cell? ⟨W.heap.size, 2, none⟩ = some (.string s1) := by go_keep
  have d0 : (((W.alloc (Obj.cells #[.int .i64 t1, .string k1, .string s1] 23)).alloc (Obj.cells #[.int .i64 t1, .string k1, .string s2] 23)).alloc (Obj.cells #[.int .i64 t3, .string k3, .string s3] 23)).cell? ⟨W.heap.size + 1, 0, none⟩ = some (.int .i64 t1) := by go_keep
  have d1 : (((W.alloc (Obj.cells #[.int .i64 t1, .string k1, .string s1] 23)).alloc (Obj.cells #[.int .i64 t1, .string k1, .string s2] 23)).alloc (Obj.cells #[.int .i64 t3, .string k3, .string s3] 23)).cell? ⟨W.heap.size + 1, 1, none⟩ = some (.string k1) := by go_keep
  have d2 : (((W.alloc (Obj.cells #[.int .i64 t1, .string k1, .string s1] 23)).alloc (Obj.cells #[.int .i64 t1, .string k1, .string s2] 23)).alloc (Obj.cells #[.int .i64 t3, .string k3, .string s3] 23)).cell? ⟨W.heap.size + 1, 2, none⟩ = some (.string s2) := by go_keep
  have g0 : (((W.alloc (Obj.cells #[.int .i64 t1, .string k1, .string s1] 23)).alloc (Obj.cells #[.int .i64 t1, .string k1, .string s2] 23)).alloc (Obj.cells #[.int .i64 t3, .string k3, .string s3] 23)).cell? ⟨W.heap.size + 1 + 1, 0, none⟩ = some (.int .i64 t3) := tri_cell _ _ _ _ _ rfl
  have g1 : (((W.alloc (Obj.cells #[.int .i64 t1, .string k1, .string s1] 23)).alloc (Obj.cells #[.int .i64 t1, .string k1, .string s2] 23)).alloc (Obj.cells #[.int .i64 t3, .string k3, .string s3] 23)).cell? ⟨W.heap.size + 1 + 1, 1, none⟩ = some (.string k3) := tri_cell _ _ _ _ _ rfl
  have g2 : (((W.alloc (Obj.cells #[.int .i64 t1, .string k1, .string s1] 23)).alloc (Obj.cells #[.int .i64 t1, .string k1, .string s2] 23)).alloc (Obj.cells #[.int .i64 t3, .string k3, .string s3] 23)).cell? ⟨W.heap.size + 1 + 1, 2, none⟩ = some (.string s3) := tri_cell _ _ _ _ _ rfl
  have l0 : W.heap.size + 1 + 1 < (((W.alloc (Obj.cells #[.int .i64 t1, .string k1, .string s1] 23)).alloc (Obj.cells #[.int .i64 t1, .string k1, .string s2] 23)).alloc (Obj.cells #[.int .i64 t3, .string k3, .string s3] 23)).heap.size := by simp
  generalize (((W.alloc (Obj.cells #[.int .i64 t1, .string k1, .string s1] 23)).alloc (Obj.cells #[.int .i64 t1, .string k1, .string s2] 23)).alloc (Obj.cells #[.int .i64 t3, .string k3, .string s3] 23)) = w1 at *
  have e0 := ext_cell c0
  have e1 := ext_cell c1
  have e2 := ext_cell c2
  have f0 := ext_cell d0
  have f1 := ext_cell d1
  have f2 := ext_cell d2
  have q0 := ext_cell g0
  have q1 := ext_cell g1
  have q2 := ext_cell g2
  refine wp_region_ext (by kernel_rfl) (by kernel_rfl) ?_
  repeat (go_big_quiet_step ((go_at_call 13; exact ext_calls (H13.out _ _ _ _ _ _ _))))
  refine wpQuiet_nil ?_
  rintro w2 ⟨⟨_, hb2⟩, rfl⟩
  simp only [HX.out, HY.out, HZ.out]
  have hs2 := hb2.size
  have c0 : w2.cell? ⟨W.heap.size, 0, none⟩ = some (.int .i64 t1) := (hb2.cell (p := ⟨W.heap.size, 0, none⟩) (show W.heap.size < w1.heap.size by omega)).trans c0
  have c1 : w2.cell? ⟨W.heap.size, 1, none⟩ = some (.string k1) := (hb2.cell (p := ⟨W.heap.size, 1, none⟩) (show W.heap.size < w1.heap.size by omega)).trans c1
  have c2 : w2.cell? ⟨W.heap.size, 2, none⟩ = some (.string s1) := (hb2.cell (p := ⟨W.heap.size, 2, none⟩) (show W.heap.size < w1.heap.size by omega)).trans c2
  have d0 : w2.cell? ⟨W.heap.size + 1, 0, none⟩ = some (.int .i64 t1) := (hb2.cell (p := ⟨W.heap.size + 1, 0, none⟩) (show W.heap.size + 1 < w1.heap.size by omega)).trans d0
  have d1 : w2.cell? ⟨W.heap.size + 1, 1, none⟩ = some (.string k1) := (hb2.cell (p := ⟨W.heap.size + 1, 1, none⟩) (show W.heap.size + 1 < w1.heap.size by omega)).trans d1
  have d2 : w2.cell? ⟨W.heap.size + 1, 2, none⟩ = some (.string s2) := (hb2.cell (p := ⟨W.heap.size + 1, 2, none⟩) (show W.heap.size + 1 < w1.heap.size by omega)).trans d2
  have l1 : W.heap.size < w2.heap.size := by omega
  have l2 : W.heap.size + 1 < w2.heap.size := by omega
  clear e0 e1 e2 f0 f1 f2 q0 q1 q2 g0 g1 g2
  go_wp2_with (fail)
  refine (H13b.out _).mono ?_
  rintro e w3 ⟨rfl, hb3⟩
  have hs3 := hb3.size
  have c0 : w3.cell? ⟨W.heap.size, 0, none⟩ = some (.int .i64 t1) := (hb3.cell (p := ⟨W.heap.size, 0, none⟩) l1).trans c0
  have c1 : w3.cell? ⟨W.heap.size, 1, none⟩ = some (.string k1) := (hb3.cell (p := ⟨W.heap.size, 1, none⟩) l1).trans c1
  have c2 : w3.cell? ⟨W.heap.size, 2, none⟩ = some (.string s1) := (hb3.cell (p := ⟨W.heap.size, 2, none⟩) l1).trans c2
  have d0 : w3.cell? ⟨W.heap.size + 1, 0, none⟩ = some (.int .i64 t1) := (hb3.cell (p := ⟨W.heap.size + 1, 0, none⟩) l2).trans d0
  have d1 : w3.cell? ⟨W.heap.size + 1, 1, none⟩ = some (.string k1) := (hb3.cell (p := ⟨W.heap.size + 1, 1, none⟩) l2).trans d1
  have d2 : w3.cell? ⟨W.heap.size + 1, 2, none⟩ = some (.string s2) := (hb3.cell (p := ⟨W.heap.size + 1, 2, none⟩) l2).trans d2
  have l3 : W.heap.size < w3.heap.size := by omega
  have l4 : W.heap.size + 1 < w3.heap.size := by omega
  go_wp2_with (fail)
  refine (H13c.out _).mono ?_
  rintro e w4 ⟨rfl, hb4⟩
  go_wp2_with (fail)
  refine (awake_any _).mono ?_
  rintro e w5 ⟨rfl, hb5⟩
  go_wp2_with (fail)
  go_ret
  exact ⟨rfl, bl_then (bl_then (bl_then (bl_then hbl hb2) hb3) hb4) hb5⟩
set_option maxRecDepth 100000 in
set_option maxHeartbeats 2000000 in
theorem order_mzmt (t1 : Int) (k1 s1 : ByteArray) (t2 : Int) (k2 : ByteArray) (s2 : ByteArray) (t3 : Int) (k3 s3 : ByteArray) (W : World) (hne : ¬ t1 = t2) (hx : cmpT ⟨t1, k1, s1⟩ ⟨t2, k2, s2⟩ = (-1)) (hy : cmpT ⟨t2, k2, s2⟩ ⟨t3, k3, s3⟩ = (0)) (hz : cmpT ⟨t1, k1, s1⟩ ⟨t3, k3, s3⟩ = (-1)) :
    Calls Try.prog 4 #[.agg #[.int .i64 t1, .string k1, .string s1], .agg #[.int .i64 t2, .string k2, .string s2], .agg #[.int .i64 t3, .string k3, .string s3]] W fun e w' => e = .returned (.bool true) ∧ Below W.heap.size W w' := by
  have H13 : Hid (∀ (t1 : Int) (k1 s1 : ByteArray) (t2 : Int) (k2 s2 : ByteArray) w, Calls Try.prog 13 #[.agg #[.int .i64 t1, .string k1, .string s1], .agg #[.int .i64 t2, .string k2, .string s2]] w fun e w' => e = .returned (.int .i64 (cmpT ⟨t1, k1, s1⟩ ⟨t2, k2, s2⟩)) ∧ Below w.heap.size w w') := Lib.hid fun t1 k1 s1 t2 k2 s2 w => cmp_any _ _ _ _ _ _ w _ rfl
  have H13b : Hid (∀ w, Calls Try.prog 13 #[.agg #[.int .i64 t2, .string k2, .string s2], .agg #[.int .i64 t1, .string k1, .string s1]] w fun e w' => e = .returned (.int .i64 (1)) ∧ Below w.heap.size w w') := Lib.hid fun w => cmp_any _ _ _ _ _ _ w _ (by have := cmpT_neg ⟨t1, k1, s1⟩ ⟨t2, k2, s2⟩; rw [hx] at this; omega)
  have H13c : Hid (∀ w, Calls Try.prog 13 #[.agg #[.int .i64 t1, .string k1, .string s1], .agg #[.int .i64 t1, .string k1, .string s1]] w fun e w' => e = .returned (.int .i64 0) ∧ Below w.heap.size w w') := Lib.hid fun w => cmp_any _ _ _ _ _ _ w _ (cmpT_zero.2 rfl)
  have HX := Lib.hid hx
  have HY := Lib.hid hy
  have HZ := Lib.hid hz
  clear hx hy hz
  go_enter Try.func4, Try.ntmps4
  go_wp2_with (fail)
  have hbl : Below W.heap.size W (((W.alloc (Obj.cells #[.int .i64 t1, .string k1, .string s1] 23)).alloc (Obj.cells #[.int .i64 t2, .string k2, .string s2] 23)).alloc (Obj.cells #[.int .i64 t3, .string k3, .string s3] 23)) := bl_alloc (bl_alloc (bl_alloc (Below.refl _ _) _) _) _
  have c0 : (((W.alloc (Obj.cells #[.int .i64 t1, .string k1, .string s1] 23)).alloc (Obj.cells #[.int .i64 t2, .string k2, .string s2] 23)).alloc (Obj.cells #[.int .i64 t3, .string k3, .string s3] 23)).cell? ⟨W.heap.size, 0, none⟩ = some (.int .i64 t1) := by go_keep
  have c1 : (((W.alloc (Obj.cells #[.int .i64 t1, .string k1, .string s1] 23)).alloc (Obj.cells #[.int .i64 t2, .string k2, .string s2] 23)).alloc (Obj.cells #[.int .i64 t3, .string k3, .string s3] 23)).cell? ⟨W.heap.size, 1, none⟩ = some (.string k1) := by go_keep
  have c2 : (((W.alloc (Obj.cells #[.int .i64 t1, .string k1, .string s1] 23)).alloc (Obj.cells #[.int .i64 t2, .string k2, .string s2] 23)).alloc (Obj.cells #[.int .i64 t3, .string k3, .string s3] 23)).cell? ⟨W.heap.size, 2, none⟩ = some (.string s1) := by go_keep
  have d0 : (((W.alloc (Obj.cells #[.int .i64 t1, .string k1, .string s1] 23)).alloc (Obj.cells #[.int .i64 t2, .string k2, .string s2] 23)).alloc (Obj.cells #[.int .i64 t3, .string k3, .string s3] 23)).cell? ⟨W.heap.size + 1, 0, none⟩ = some (.int .i64 t2) := by go_keep
  have d1 : (((W.alloc (Obj.cells #[.int .i64 t1, .string k1, .string s1] 23)).alloc (Obj.cells #[.int .i64 t2, .string k2, .string s2] 23)).alloc (Obj.cells #[.int .i64 t3, .string k3, .string s3] 23)).cell? ⟨W.heap.size + 1, 1, none⟩ = some (.string k2) := by go_keep
  have d2 : (((W.alloc (Obj.cells #[.int .i64 t1, .string k1, .string s1] 23)).alloc (Obj.cells #[.int .i64 t2, .string k2, .string s2] 23)).alloc (Obj.cells #[.int .i64 t3, .string k3, .string s3] 23)).cell? ⟨W.heap.size + 1, 2, none⟩ = some (.string s2) := by go_keep
  have g0 : (((W.alloc (Obj.cells #[.int .i64 t1, .string k1, .string s1] 23)).alloc (Obj.cells #[.int .i64 t2, .string k2, .string s2] 23)).alloc (Obj.cells #[.int .i64 t3, .string k3, .string s3] 23)).cell? ⟨W.heap.size + 1 + 1, 0, none⟩ = some (.int .i64 t3) := tri_cell _ _ _ _ _ rfl
  have g1 : (((W.alloc (Obj.cells #[.int .i64 t1, .string k1, .string s1] 23)).alloc (Obj.cells #[.int .i64 t2, .string k2, .string s2] 23)).alloc (Obj.cells #[.int .i64 t3, .string k3, .string s3] 23)).cell? ⟨W.heap.size + 1 + 1, 1, none⟩ = some (.string k3) := tri_cell _ _ _ _ _ rfl
  have g2 : (((W.alloc (Obj.cells #[.int .i64 t1, .string k1, .string s1] 23)).alloc (Obj.cells #[.int .i64 t2, .string k2, .string s2] 23)).alloc (Obj.cells #[.int .i64 t3, .string k3, .string s3] 23)).cell? ⟨W.heap.size + 1 + 1, 2, none⟩ = some (.string s3) := tri_cell _ _ _ _ _ rfl
  have l0 : W.heap.size + 1 + 1 < (((W.alloc (Obj.cells #[.int .i64 t1, .string k1, .string s1] 23)).alloc (Obj.cells #[.int .i64 t2, .string k2, .string s2] 23)).alloc (Obj.cells #[.int .i64 t3, .string k3, .string s3] 23)).heap.size := by simp
  generalize (((W.alloc (Obj.cells #[.int .i64 t1, .string k1, .string s1] 23)).alloc (Obj.cells #[.int .i64 t2, .string k2, .string s2] 23)).alloc (Obj.cells #[.int .i64 t3, .string k3, .string s3] 23)) = w1 at *
  have e0 := ext_cell c0
  have e1 := ext_cell c1
  have e2 := ext_cell c2
  have f0 := ext_cell d0
  have f1 := ext_cell d1
  have f2 := ext_cell d2
  have q0 := ext_cell g0
  have q1 := ext_cell g1
  have q2 := ext_cell g2
  refine wp_region_ext (by kernel_rfl) (by kernel_rfl) ?_
  repeat (go_big_quiet_step ((go_at_call 13; exact ext_calls (H13.out _ _ _ _ _ _ _))))
  refine wpQuiet_nil ?_
  rintro w2 ⟨⟨_, hb2⟩, rfl⟩
  simp only [HX.out, HY.out, HZ.out]
  have hs2 := hb2.size
  have c0 : w2.cell? ⟨W.heap.size, 0, none⟩ = some (.int .i64 t1) := (hb2.cell (p := ⟨W.heap.size, 0, none⟩) (show W.heap.size < w1.heap.size by omega)).trans c0
  have c1 : w2.cell? ⟨W.heap.size, 1, none⟩ = some (.string k1) := (hb2.cell (p := ⟨W.heap.size, 1, none⟩) (show W.heap.size < w1.heap.size by omega)).trans c1
  have c2 : w2.cell? ⟨W.heap.size, 2, none⟩ = some (.string s1) := (hb2.cell (p := ⟨W.heap.size, 2, none⟩) (show W.heap.size < w1.heap.size by omega)).trans c2
  have d0 : w2.cell? ⟨W.heap.size + 1, 0, none⟩ = some (.int .i64 t2) := (hb2.cell (p := ⟨W.heap.size + 1, 0, none⟩) (show W.heap.size + 1 < w1.heap.size by omega)).trans d0
  have d1 : w2.cell? ⟨W.heap.size + 1, 1, none⟩ = some (.string k2) := (hb2.cell (p := ⟨W.heap.size + 1, 1, none⟩) (show W.heap.size + 1 < w1.heap.size by omega)).trans d1
  have d2 : w2.cell? ⟨W.heap.size + 1, 2, none⟩ = some (.string s2) := (hb2.cell (p := ⟨W.heap.size + 1, 2, none⟩) (show W.heap.size + 1 < w1.heap.size by omega)).trans d2
  have l1 : W.heap.size < w2.heap.size := by omega
  have l2 : W.heap.size + 1 < w2.heap.size := by omega
  clear e0 e1 e2 f0 f1 f2 q0 q1 q2 g0 g1 g2
  go_wp2_with (fail)
  refine (H13b.out _).mono ?_
  rintro e w3 ⟨rfl, hb3⟩
  have hs3 := hb3.size
  have c0 : w3.cell? ⟨W.heap.size, 0, none⟩ = some (.int .i64 t1) := (hb3.cell (p := ⟨W.heap.size, 0, none⟩) l1).trans c0
  have c1 : w3.cell? ⟨W.heap.size, 1, none⟩ = some (.string k1) := (hb3.cell (p := ⟨W.heap.size, 1, none⟩) l1).trans c1
  have c2 : w3.cell? ⟨W.heap.size, 2, none⟩ = some (.string s1) := (hb3.cell (p := ⟨W.heap.size, 2, none⟩) l1).trans c2
  have d0 : w3.cell? ⟨W.heap.size + 1, 0, none⟩ = some (.int .i64 t2) := (hb3.cell (p := ⟨W.heap.size + 1, 0, none⟩) l2).trans d0
  have d1 : w3.cell? ⟨W.heap.size + 1, 1, none⟩ = some (.string k2) := (hb3.cell (p := ⟨W.heap.size + 1, 1, none⟩) l2).trans d1
  have d2 : w3.cell? ⟨W.heap.size + 1, 2, none⟩ = some (.string s2) := (hb3.cell (p := ⟨W.heap.size + 1, 2, none⟩) l2).trans d2
  have l3 : W.heap.size < w3.heap.size := by omega
  have l4 : W.heap.size + 1 < w3.heap.size := by omega
  go_wp2_with (fail)
  refine (H13c.out _).mono ?_
  rintro e w4 ⟨rfl, hb4⟩
  go_wp2_with (fail)
  refine (awake_any _).mono ?_
  rintro e w5 ⟨rfl, hb5⟩
  go_wp2_with (fail)
  go_ret
  exact ⟨rfl, bl_then (bl_then (bl_then (bl_then hbl hb2) hb3) hb4) hb5⟩
set_option maxRecDepth 100000 in
set_option maxHeartbeats 2000000 in
theorem order_mzmk (t1 : Int) (k1 s1 : ByteArray) (k2 : ByteArray) (s2 : ByteArray) (t3 : Int) (k3 s3 : ByteArray) (W : World) (hne : (k1.toList == k2.toList) = false) (hx : cmpT ⟨t1, k1, s1⟩ ⟨t1, k2, s2⟩ = (-1)) (hy : cmpT ⟨t1, k2, s2⟩ ⟨t3, k3, s3⟩ = (0)) (hz : cmpT ⟨t1, k1, s1⟩ ⟨t3, k3, s3⟩ = (-1)) :
    Calls Try.prog 4 #[.agg #[.int .i64 t1, .string k1, .string s1], .agg #[.int .i64 t1, .string k2, .string s2], .agg #[.int .i64 t3, .string k3, .string s3]] W fun e w' => e = .returned (.bool true) ∧ Below W.heap.size W w' := by
  have H13 : Hid (∀ (t1 : Int) (k1 s1 : ByteArray) (t2 : Int) (k2 s2 : ByteArray) w, Calls Try.prog 13 #[.agg #[.int .i64 t1, .string k1, .string s1], .agg #[.int .i64 t2, .string k2, .string s2]] w fun e w' => e = .returned (.int .i64 (cmpT ⟨t1, k1, s1⟩ ⟨t2, k2, s2⟩)) ∧ Below w.heap.size w w') := Lib.hid fun t1 k1 s1 t2 k2 s2 w => cmp_any _ _ _ _ _ _ w _ rfl
  have H13b : Hid (∀ w, Calls Try.prog 13 #[.agg #[.int .i64 t1, .string k2, .string s2], .agg #[.int .i64 t1, .string k1, .string s1]] w fun e w' => e = .returned (.int .i64 (1)) ∧ Below w.heap.size w w') := Lib.hid fun w => cmp_any _ _ _ _ _ _ w _ (by have := cmpT_neg ⟨t1, k1, s1⟩ ⟨t1, k2, s2⟩; rw [hx] at this; omega)
  have H13c : Hid (∀ w, Calls Try.prog 13 #[.agg #[.int .i64 t1, .string k1, .string s1], .agg #[.int .i64 t1, .string k1, .string s1]] w fun e w' => e = .returned (.int .i64 0) ∧ Below w.heap.size w w') := Lib.hid fun w => cmp_any _ _ _ _ _ _ w _ (cmpT_zero.2 rfl)
  have HX := Lib.hid hx
  have HY := Lib.hid hy
  have HZ := Lib.hid hz
  clear hx hy hz
  go_enter Try.func4, Try.ntmps4
  go_wp2_with (fail)
  have hbl : Below W.heap.size W (((W.alloc (Obj.cells #[.int .i64 t1, .string k1, .string s1] 23)).alloc (Obj.cells #[.int .i64 t1, .string k2, .string s2] 23)).alloc (Obj.cells #[.int .i64 t3, .string k3, .string s3] 23)) := bl_alloc (bl_alloc (bl_alloc (Below.refl _ _) _) _) _
  have c0 : (((W.alloc (Obj.cells #[.int .i64 t1, .string k1, .string s1] 23)).alloc (Obj.cells #[.int .i64 t1, .string k2, .string s2] 23)).alloc (Obj.cells #[.int .i64 t3, .string k3, .string s3] 23)).cell? ⟨W.heap.size, 0, none⟩ = some (.int .i64 t1) := by go_keep
  have c1 : (((W.alloc (Obj.cells #[.int .i64 t1, .string k1, .string s1] 23)).alloc (Obj.cells #[.int .i64 t1, .string k2, .string s2] 23)).alloc (Obj.cells #[.int .i64 t3, .string k3, .string s3] 23)).cell? ⟨W.heap.size, 1, none⟩ = some (.string k1) := by go_keep
  have c2 : (((W.alloc (Obj.cells #[.int .i64 t1, .string k1, .string s1] 23)).alloc (Obj.cells #[.int .i64 t1, .string k2, .string s2] 23)).alloc (Obj.cells #[.int .i64 t3, .string k3, .string s3] 23)).cell? ⟨W.heap.size, 2, none⟩ = some (.string s1) := by go_keep
  have d0 : (((W.alloc (Obj.cells #[.int .i64 t1, .string k1, .string s1] 23)).alloc (Obj.cells #[.int .i64 t1, .string k2, .string s2] 23)).alloc (Obj.cells #[.int .i64 t3, .string k3, .string s3] 23)).cell? ⟨W.heap.size + 1, 0, none⟩ = some (.int .i64 t1) := by go_keep
  have d1 : (((W.alloc (Obj.cells #[.int .i64 t1, .string k1, .string s1] 23)).alloc (Obj.cells #[.int .i64 t1, .string k2, .string s2] 23)).alloc (Obj.cells #[.int .i64 t3, .string k3, .string s3] 23)).cell? ⟨W.heap.size + 1, 1, none⟩ = some (.string k2) := by go_keep
  have d2 : (((W.alloc (Obj.cells #[.int .i64 t1, .string k1, .string s1] 23)).alloc (Obj.cells #[.int .i64 t1, .string k2, .string s2] 23)).alloc (Obj.cells #[.int .i64 t3, .string k3, .string s3] 23)).cell? ⟨W.heap.size + 1, 2, none⟩ = some (.string s2) := by go_keep
  have g0 : (((W.alloc (Obj.cells #[.int .i64 t1, .string k1, .string s1] 23)).alloc (Obj.cells #[.int .i64 t1, .string k2, .string s2] 23)).alloc (Obj.cells #[.int .i64 t3, .string k3, .string s3] 23)).cell? ⟨W.heap.size + 1 + 1, 0, none⟩ = some (.int .i64 t3) := tri_cell _ _ _ _ _ rfl
  have g1 : (((W.alloc (Obj.cells #[.int .i64 t1, .string k1, .string s1] 23)).alloc (Obj.cells #[.int .i64 t1, .string k2, .string s2] 23)).alloc (Obj.cells #[.int .i64 t3, .string k3, .string s3] 23)).cell? ⟨W.heap.size + 1 + 1, 1, none⟩ = some (.string k3) := tri_cell _ _ _ _ _ rfl
  have g2 : (((W.alloc (Obj.cells #[.int .i64 t1, .string k1, .string s1] 23)).alloc (Obj.cells #[.int .i64 t1, .string k2, .string s2] 23)).alloc (Obj.cells #[.int .i64 t3, .string k3, .string s3] 23)).cell? ⟨W.heap.size + 1 + 1, 2, none⟩ = some (.string s3) := tri_cell _ _ _ _ _ rfl
  have l0 : W.heap.size + 1 + 1 < (((W.alloc (Obj.cells #[.int .i64 t1, .string k1, .string s1] 23)).alloc (Obj.cells #[.int .i64 t1, .string k2, .string s2] 23)).alloc (Obj.cells #[.int .i64 t3, .string k3, .string s3] 23)).heap.size := by simp
  generalize (((W.alloc (Obj.cells #[.int .i64 t1, .string k1, .string s1] 23)).alloc (Obj.cells #[.int .i64 t1, .string k2, .string s2] 23)).alloc (Obj.cells #[.int .i64 t3, .string k3, .string s3] 23)) = w1 at *
  have e0 := ext_cell c0
  have e1 := ext_cell c1
  have e2 := ext_cell c2
  have f0 := ext_cell d0
  have f1 := ext_cell d1
  have f2 := ext_cell d2
  have q0 := ext_cell g0
  have q1 := ext_cell g1
  have q2 := ext_cell g2
  refine wp_region_ext (by kernel_rfl) (by kernel_rfl) ?_
  repeat (go_big_quiet_step ((go_at_call 13; exact ext_calls (H13.out _ _ _ _ _ _ _))))
  refine wpQuiet_nil ?_
  rintro w2 ⟨⟨_, hb2⟩, rfl⟩
  simp only [HX.out, HY.out, HZ.out]
  have hs2 := hb2.size
  have c0 : w2.cell? ⟨W.heap.size, 0, none⟩ = some (.int .i64 t1) := (hb2.cell (p := ⟨W.heap.size, 0, none⟩) (show W.heap.size < w1.heap.size by omega)).trans c0
  have c1 : w2.cell? ⟨W.heap.size, 1, none⟩ = some (.string k1) := (hb2.cell (p := ⟨W.heap.size, 1, none⟩) (show W.heap.size < w1.heap.size by omega)).trans c1
  have c2 : w2.cell? ⟨W.heap.size, 2, none⟩ = some (.string s1) := (hb2.cell (p := ⟨W.heap.size, 2, none⟩) (show W.heap.size < w1.heap.size by omega)).trans c2
  have d0 : w2.cell? ⟨W.heap.size + 1, 0, none⟩ = some (.int .i64 t1) := (hb2.cell (p := ⟨W.heap.size + 1, 0, none⟩) (show W.heap.size + 1 < w1.heap.size by omega)).trans d0
  have d1 : w2.cell? ⟨W.heap.size + 1, 1, none⟩ = some (.string k2) := (hb2.cell (p := ⟨W.heap.size + 1, 1, none⟩) (show W.heap.size + 1 < w1.heap.size by omega)).trans d1
  have d2 : w2.cell? ⟨W.heap.size + 1, 2, none⟩ = some (.string s2) := (hb2.cell (p := ⟨W.heap.size + 1, 2, none⟩) (show W.heap.size + 1 < w1.heap.size by omega)).trans d2
  have l1 : W.heap.size < w2.heap.size := by omega
  have l2 : W.heap.size + 1 < w2.heap.size := by omega
  clear e0 e1 e2 f0 f1 f2 q0 q1 q2 g0 g1 g2
  go_wp2_with (fail)
  refine (H13b.out _).mono ?_
  rintro e w3 ⟨rfl, hb3⟩
  have hs3 := hb3.size
  have c0 : w3.cell? ⟨W.heap.size, 0, none⟩ = some (.int .i64 t1) := (hb3.cell (p := ⟨W.heap.size, 0, none⟩) l1).trans c0
  have c1 : w3.cell? ⟨W.heap.size, 1, none⟩ = some (.string k1) := (hb3.cell (p := ⟨W.heap.size, 1, none⟩) l1).trans c1
  have c2 : w3.cell? ⟨W.heap.size, 2, none⟩ = some (.string s1) := (hb3.cell (p := ⟨W.heap.size, 2, none⟩) l1).trans c2
  have d0 : w3.cell? ⟨W.heap.size + 1, 0, none⟩ = some (.int .i64 t1) := (hb3.cell (p := ⟨W.heap.size + 1, 0, none⟩) l2).trans d0
  have d1 : w3.cell? ⟨W.heap.size + 1, 1, none⟩ = some (.string k2) := (hb3.cell (p := ⟨W.heap.size + 1, 1, none⟩) l2).trans d1
  have d2 : w3.cell? ⟨W.heap.size + 1, 2, none⟩ = some (.string s2) := (hb3.cell (p := ⟨W.heap.size + 1, 2, none⟩) l2).trans d2
  have l3 : W.heap.size < w3.heap.size := by omega
  have l4 : W.heap.size + 1 < w3.heap.size := by omega
  go_wp2_with (fail)
  refine (H13c.out _).mono ?_
  rintro e w4 ⟨rfl, hb4⟩
  go_wp2_with (fail)
  refine (awake_any _).mono ?_
  rintro e w5 ⟨rfl, hb5⟩
  go_wp2_with (fail)
  go_ret
  exact ⟨rfl, bl_then (bl_then (bl_then (bl_then hbl hb2) hb3) hb4) hb5⟩
set_option maxRecDepth 100000 in
set_option maxHeartbeats 2000000 in
theorem order_mzms (t1 : Int) (k1 s1 : ByteArray) (s2 : ByteArray) (t3 : Int) (k3 s3 : ByteArray) (W : World) (hne : (s1.toList == s2.toList) = false) (hx : cmpT ⟨t1, k1, s1⟩ ⟨t1, k1, s2⟩ = (-1)) (hy : cmpT ⟨t1, k1, s2⟩ ⟨t3, k3, s3⟩ = (0)) (hz : cmpT ⟨t1, k1, s1⟩ ⟨t3, k3, s3⟩ = (-1)) :
    Calls Try.prog 4 #[.agg #[.int .i64 t1, .string k1, .string s1], .agg #[.int .i64 t1, .string k1, .string s2], .agg #[.int .i64 t3, .string k3, .string s3]] W fun e w' => e = .returned (.bool true) ∧ Below W.heap.size W w' := by
  have H13 : Hid (∀ (t1 : Int) (k1 s1 : ByteArray) (t2 : Int) (k2 s2 : ByteArray) w, Calls Try.prog 13 #[.agg #[.int .i64 t1, .string k1, .string s1], .agg #[.int .i64 t2, .string k2, .string s2]] w fun e w' => e = .returned (.int .i64 (cmpT ⟨t1, k1, s1⟩ ⟨t2, k2, s2⟩)) ∧ Below w.heap.size w w') := Lib.hid fun t1 k1 s1 t2 k2 s2 w => cmp_any _ _ _ _ _ _ w _ rfl
  have H13b : Hid (∀ w, Calls Try.prog 13 #[.agg #[.int .i64 t1, .string k1, .string s2], .agg #[.int .i64 t1, .string k1, .string s1]] w fun e w' => e = .returned (.int .i64 (1)) ∧ Below w.heap.size w w') := Lib.hid fun w => cmp_any _ _ _ _ _ _ w _ (by have := cmpT_neg ⟨t1, k1, s1⟩ ⟨t1, k1, s2⟩; rw [hx] at this; omega)
  have H13c : Hid (∀ w, Calls Try.prog 13 #[.agg #[.int .i64 t1, .string k1, .string s1], .agg #[.int .i64 t1, .string k1, .string s1]] w fun e w' => e = .returned (.int .i64 0) ∧ Below w.heap.size w w') := Lib.hid fun w => cmp_any _ _ _ _ _ _ w _ (cmpT_zero.2 rfl)
  have HX := Lib.hid hx
  have HY := Lib.hid hy
  have HZ := Lib.hid hz
  clear hx hy hz
  go_enter Try.func4, Try.ntmps4
  go_wp2_with (fail)
  have hbl : Below W.heap.size W (((W.alloc (Obj.cells #[.int .i64 t1, .string k1, .string s1] 23)).alloc (Obj.cells #[.int .i64 t1, .string k1, .string s2] 23)).alloc (Obj.cells #[.int .i64 t3, .string k3, .string s3] 23)) := bl_alloc (bl_alloc (bl_alloc (Below.refl _ _) _) _) _
  have c0 : (((W.alloc (Obj.cells #[.int .i64 t1, .string k1, .string s1] 23)).alloc (Obj.cells #[.int .i64 t1, .string k1, .string s2] 23)).alloc (Obj.cells #[.int .i64 t3, .string k3, .string s3] 23)).cell? ⟨W.heap.size, 0, none⟩ = some (.int .i64 t1) := by go_keep
  have c1 : (((W.alloc (Obj.cells #[.int .i64 t1, .string k1, .string s1] 23)).alloc (Obj.cells #[.int .i64 t1, .string k1, .string s2] 23)).alloc (Obj.cells #[.int .i64 t3, .string k3, .string s3] 23)).cell? ⟨W.heap.size, 1, none⟩ = some (.string k1) := by go_keep
  have c2 : (((W.alloc (Obj.cells #[.int .i64 t1, .string k1, .string s1] 23)).alloc (Obj.cells #[.int .i64 t1, .string k1, .string s2] 23)).alloc (Obj.cells #[.int .i64 t3, .string k3, .string s3] 23)).cell? ⟨W.heap.size, 2, none⟩ = some (.string s1) := by go_keep
  have d0 : (((W.alloc (Obj.cells #[.int .i64 t1, .string k1, .string s1] 23)).alloc (Obj.cells #[.int .i64 t1, .string k1, .string s2] 23)).alloc (Obj.cells #[.int .i64 t3, .string k3, .string s3] 23)).cell? ⟨W.heap.size + 1, 0, none⟩ = some (.int .i64 t1) := by go_keep
  have d1 : (((W.alloc (Obj.cells #[.int .i64 t1, .string k1, .string s1] 23)).alloc (Obj.cells #[.int .i64 t1, .string k1, .string s2] 23)).alloc (Obj.cells #[.int .i64 t3, .string k3, .string s3] 23)).cell? ⟨W.heap.size + 1, 1, none⟩ = some (.string k1) := by go_keep
  have d2 : (((W.alloc (Obj.cells #[.int .i64 t1, .string k1, .string s1] 23)).alloc (Obj.cells #[.int .i64 t1, .string k1, .string s2] 23)).alloc (Obj.cells #[.int .i64 t3, .string k3, .string s3] 23)).cell? ⟨W.heap.size + 1, 2, none⟩ = some (.string s2) := by go_keep
  have g0 : (((W.alloc (Obj.cells #[.int .i64 t1, .string k1, .string s1] 23)).alloc (Obj.cells #[.int .i64 t1, .string k1, .string s2] 23)).alloc (Obj.cells #[.int .i64 t3, .string k3, .string s3] 23)).cell? ⟨W.heap.size + 1 + 1, 0, none⟩ = some (.int .i64 t3) := tri_cell _ _ _ _ _ rfl
  have g1 : (((W.alloc (Obj.cells #[.int .i64 t1, .string k1, .string s1] 23)).alloc (Obj.cells #[.int .i64 t1, .string k1, .string s2] 23)).alloc (Obj.cells #[.int .i64 t3, .string k3, .string s3] 23)).cell? ⟨W.heap.size + 1 + 1, 1, none⟩ = some (.string k3) := tri_cell _ _ _ _ _ rfl
  have g2 : (((W.alloc (Obj.cells #[.int .i64 t1, .string k1, .string s1] 23)).alloc (Obj.cells #[.int .i64 t1, .string k1, .string s2] 23)).alloc (Obj.cells #[.int .i64 t3, .string k3, .string s3] 23)).cell? ⟨W.heap.size + 1 + 1, 2, none⟩ = some (.string s3) := tri_cell _ _ _ _ _ rfl
  have l0 : W.heap.size + 1 + 1 < (((W.alloc (Obj.cells #[.int .i64 t1, .string k1, .string s1] 23)).alloc (Obj.cells #[.int .i64 t1, .string k1, .string s2] 23)).alloc (Obj.cells #[.int .i64 t3, .string k3, .string s3] 23)).heap.size := by simp
  generalize (((W.alloc (Obj.cells #[.int .i64 t1, .string k1, .string s1] 23)).alloc (Obj.cells #[.int .i64 t1, .string k1, .string s2] 23)).alloc (Obj.cells #[.int .i64 t3, .string k3, .string s3] 23)) = w1 at *
  have e0 := ext_cell c0
  have e1 := ext_cell c1
  have e2 := ext_cell c2
  have f0 := ext_cell d0
  have f1 := ext_cell d1
  have f2 := ext_cell d2
  have q0 := ext_cell g0
  have q1 := ext_cell g1
  have q2 := ext_cell g2
  refine wp_region_ext (by kernel_rfl) (by kernel_rfl) ?_
  repeat (go_big_quiet_step ((go_at_call 13; exact ext_calls (H13.out _ _ _ _ _ _ _))))
  refine wpQuiet_nil ?_
  rintro w2 ⟨⟨_, hb2⟩, rfl⟩
  simp only [HX.out, HY.out, HZ.out]
  have hs2 := hb2.size
  have c0 : w2.cell? ⟨W.heap.size, 0, none⟩ = some (.int .i64 t1) := (hb2.cell (p := ⟨W.heap.size, 0, none⟩) (show W.heap.size < w1.heap.size by omega)).trans c0
  have c1 : w2.cell? ⟨W.heap.size, 1, none⟩ = some (.string k1) := (hb2.cell (p := ⟨W.heap.size, 1, none⟩) (show W.heap.size < w1.heap.size by omega)).trans c1
  have c2 : w2.cell? ⟨W.heap.size, 2, none⟩ = some (.string s1) := (hb2.cell (p := ⟨W.heap.size, 2, none⟩) (show W.heap.size < w1.heap.size by omega)).trans c2
  have d0 : w2.cell? ⟨W.heap.size + 1, 0, none⟩ = some (.int .i64 t1) := (hb2.cell (p := ⟨W.heap.size + 1, 0, none⟩) (show W.heap.size + 1 < w1.heap.size by omega)).trans d0
  have d1 : w2.cell? ⟨W.heap.size + 1, 1, none⟩ = some (.string k1) := (hb2.cell (p := ⟨W.heap.size + 1, 1, none⟩) (show W.heap.size + 1 < w1.heap.size by omega)).trans d1
  have d2 : w2.cell? ⟨W.heap.size + 1, 2, none⟩ = some (.string s2) := (hb2.cell (p := ⟨W.heap.size + 1, 2, none⟩) (show W.heap.size + 1 < w1.heap.size by omega)).trans d2
  have l1 : W.heap.size < w2.heap.size := by omega
  have l2 : W.heap.size + 1 < w2.heap.size := by omega
  clear e0 e1 e2 f0 f1 f2 q0 q1 q2 g0 g1 g2
  go_wp2_with (fail)
  refine (H13b.out _).mono ?_
  rintro e w3 ⟨rfl, hb3⟩
  have hs3 := hb3.size
  have c0 : w3.cell? ⟨W.heap.size, 0, none⟩ = some (.int .i64 t1) := (hb3.cell (p := ⟨W.heap.size, 0, none⟩) l1).trans c0
  have c1 : w3.cell? ⟨W.heap.size, 1, none⟩ = some (.string k1) := (hb3.cell (p := ⟨W.heap.size, 1, none⟩) l1).trans c1
  have c2 : w3.cell? ⟨W.heap.size, 2, none⟩ = some (.string s1) := (hb3.cell (p := ⟨W.heap.size, 2, none⟩) l1).trans c2
  have d0 : w3.cell? ⟨W.heap.size + 1, 0, none⟩ = some (.int .i64 t1) := (hb3.cell (p := ⟨W.heap.size + 1, 0, none⟩) l2).trans d0
  have d1 : w3.cell? ⟨W.heap.size + 1, 1, none⟩ = some (.string k1) := (hb3.cell (p := ⟨W.heap.size + 1, 1, none⟩) l2).trans d1
  have d2 : w3.cell? ⟨W.heap.size + 1, 2, none⟩ = some (.string s2) := (hb3.cell (p := ⟨W.heap.size + 1, 2, none⟩) l2).trans d2
  have l3 : W.heap.size < w3.heap.size := by omega
  have l4 : W.heap.size + 1 < w3.heap.size := by omega
  go_wp2_with (fail)
  refine (H13c.out _).mono ?_
  rintro e w4 ⟨rfl, hb4⟩
  go_wp2_with (fail)
  refine (awake_any _).mono ?_
  rintro e w5 ⟨rfl, hb5⟩
  go_wp2_with (fail)
  go_ret
  exact ⟨rfl, bl_then (bl_then (bl_then (bl_then hbl hb2) hb3) hb4) hb5⟩
set_option maxRecDepth 100000 in
set_option maxHeartbeats 2000000 in
theorem order_mpmt (t1 : Int) (k1 s1 : ByteArray) (t2 : Int) (k2 : ByteArray) (s2 : ByteArray) (t3 : Int) (k3 s3 : ByteArray) (W : World) (hne : ¬ t1 = t2) (hx : cmpT ⟨t1, k1, s1⟩ ⟨t2, k2, s2⟩ = (-1)) (hy : cmpT ⟨t2, k2, s2⟩ ⟨t3, k3, s3⟩ = (1)) (hz : cmpT ⟨t1, k1, s1⟩ ⟨t3, k3, s3⟩ = (-1)) :
    Calls Try.prog 4 #[.agg #[.int .i64 t1, .string k1, .string s1], .agg #[.int .i64 t2, .string k2, .string s2], .agg #[.int .i64 t3, .string k3, .string s3]] W fun e w' => e = .returned (.bool true) ∧ Below W.heap.size W w' := by
  have H13 : Hid (∀ (t1 : Int) (k1 s1 : ByteArray) (t2 : Int) (k2 s2 : ByteArray) w, Calls Try.prog 13 #[.agg #[.int .i64 t1, .string k1, .string s1], .agg #[.int .i64 t2, .string k2, .string s2]] w fun e w' => e = .returned (.int .i64 (cmpT ⟨t1, k1, s1⟩ ⟨t2, k2, s2⟩)) ∧ Below w.heap.size w w') := Lib.hid fun t1 k1 s1 t2 k2 s2 w => cmp_any _ _ _ _ _ _ w _ rfl
  have H13b : Hid (∀ w, Calls Try.prog 13 #[.agg #[.int .i64 t2, .string k2, .string s2], .agg #[.int .i64 t1, .string k1, .string s1]] w fun e w' => e = .returned (.int .i64 (1)) ∧ Below w.heap.size w w') := Lib.hid fun w => cmp_any _ _ _ _ _ _ w _ (by have := cmpT_neg ⟨t1, k1, s1⟩ ⟨t2, k2, s2⟩; rw [hx] at this; omega)
  have H13c : Hid (∀ w, Calls Try.prog 13 #[.agg #[.int .i64 t1, .string k1, .string s1], .agg #[.int .i64 t1, .string k1, .string s1]] w fun e w' => e = .returned (.int .i64 0) ∧ Below w.heap.size w w') := Lib.hid fun w => cmp_any _ _ _ _ _ _ w _ (cmpT_zero.2 rfl)
  have HX := Lib.hid hx
  have HY := Lib.hid hy
  have HZ := Lib.hid hz
  clear hx hy hz
  go_enter Try.func4, Try.ntmps4
  go_wp2_with (fail)
  have hbl : Below W.heap.size W (((W.alloc (Obj.cells #[.int .i64 t1, .string k1, .string s1] 23)).alloc (Obj.cells #[.int .i64 t2, .string k2, .string s2] 23)).alloc (Obj.cells #[.int .i64 t3, .string k3, .string s3] 23)) := bl_alloc (bl_alloc (bl_alloc (Below.refl _ _) _) _) _
  have c0 : (((W.alloc (Obj.cells #[.int .i64 t1, .string k1, .string s1] 23)).alloc (Obj.cells #[.int .i64 t2, .string k2, .string s2] 23)).alloc (Obj.cells #[.int .i64 t3, .string k3, .string s3] 23)).cell? ⟨W.heap.size, 0, none⟩ = some (.int .i64 t1) := by go_keep
  have c1 : (((W.alloc (Obj.cells #[.int .i64 t1, .string k1, .string s1] 23)).alloc (Obj.cells #[.int .i64 t2, .string k2, .string s2] 23)).alloc (Obj.cells #[.int .i64 t3, .string k3, .string s3] 23)).cell? ⟨W.heap.size, 1, none⟩ = some (.string k1) := by go_keep
  have c2 : (((W.alloc (Obj.cells #[.int .i64 t1, .string k1, .string s1] 23)).alloc (Obj.cells #[.int .i64 t2, .string k2, .string s2] 23)).alloc (Obj.cells #[.int .i64 t3, .string k3, .string s3] 23)).cell? ⟨W.heap.size, 2, none⟩ = some (.string s1) := by go_keep
  have d0 : (((W.alloc (Obj.cells #[.int .i64 t1, .string k1, .string s1] 23)).alloc (Obj.cells #[.int .i64 t2, .string k2, .string s2] 23)).alloc (Obj.cells #[.int .i64 t3, .string k3, .string s3] 23)).cell? ⟨W.heap.size + 1, 0, none⟩ = some (.int .i64 t2) := by go_keep
  have d1 : (((W.alloc (Obj.cells #[.int .i64 t1, .string k1, .string s1] 23)).alloc (Obj.cells #[.int .i64 t2, .string k2, .string s2] 23)).alloc (Obj.cells #[.int .i64 t3, .string k3, .string s3] 23)).cell? ⟨W.heap.size + 1, 1, none⟩ = some (.string k2) := by go_keep
  have d2 : (((W.alloc (Obj.cells #[.int .i64 t1, .string k1, .string s1] 23)).alloc (Obj.cells #[.int .i64 t2, .string k2, .string s2] 23)).alloc (Obj.cells #[.int .i64 t3, .string k3, .string s3] 23)).cell? ⟨W.heap.size + 1, 2, none⟩ = some (.string s2) := by go_keep
  have g0 : (((W.alloc (Obj.cells #[.int .i64 t1, .string k1, .string s1] 23)).alloc (Obj.cells #[.int .i64 t2, .string k2, .string s2] 23)).alloc (Obj.cells #[.int .i64 t3, .string k3, .string s3] 23)).cell? ⟨W.heap.size + 1 + 1, 0, none⟩ = some (.int .i64 t3) := tri_cell _ _ _ _ _ rfl
  have g1 : (((W.alloc (Obj.cells #[.int .i64 t1, .string k1, .string s1] 23)).alloc (Obj.cells #[.int .i64 t2, .string k2, .string s2] 23)).alloc (Obj.cells #[.int .i64 t3, .string k3, .string s3] 23)).cell? ⟨W.heap.size + 1 + 1, 1, none⟩ = some (.string k3) := tri_cell _ _ _ _ _ rfl
  have g2 : (((W.alloc (Obj.cells #[.int .i64 t1, .string k1, .string s1] 23)).alloc (Obj.cells #[.int .i64 t2, .string k2, .string s2] 23)).alloc (Obj.cells #[.int .i64 t3, .string k3, .string s3] 23)).cell? ⟨W.heap.size + 1 + 1, 2, none⟩ = some (.string s3) := tri_cell _ _ _ _ _ rfl
  have l0 : W.heap.size + 1 + 1 < (((W.alloc (Obj.cells #[.int .i64 t1, .string k1, .string s1] 23)).alloc (Obj.cells #[.int .i64 t2, .string k2, .string s2] 23)).alloc (Obj.cells #[.int .i64 t3, .string k3, .string s3] 23)).heap.size := by simp
  generalize (((W.alloc (Obj.cells #[.int .i64 t1, .string k1, .string s1] 23)).alloc (Obj.cells #[.int .i64 t2, .string k2, .string s2] 23)).alloc (Obj.cells #[.int .i64 t3, .string k3, .string s3] 23)) = w1 at *
  have e0 := ext_cell c0
  have e1 := ext_cell c1
  have e2 := ext_cell c2
  have f0 := ext_cell d0
  have f1 := ext_cell d1
  have f2 := ext_cell d2
  have q0 := ext_cell g0
  have q1 := ext_cell g1
  have q2 := ext_cell g2
  refine wp_region_ext (by kernel_rfl) (by kernel_rfl) ?_
  repeat (go_big_quiet_step ((go_at_call 13; exact ext_calls (H13.out _ _ _ _ _ _ _))))
  refine wpQuiet_nil ?_
  rintro w2 ⟨⟨_, hb2⟩, rfl⟩
  simp only [HX.out, HY.out, HZ.out]
  have hs2 := hb2.size
  have c0 : w2.cell? ⟨W.heap.size, 0, none⟩ = some (.int .i64 t1) := (hb2.cell (p := ⟨W.heap.size, 0, none⟩) (show W.heap.size < w1.heap.size by omega)).trans c0
  have c1 : w2.cell? ⟨W.heap.size, 1, none⟩ = some (.string k1) := (hb2.cell (p := ⟨W.heap.size, 1, none⟩) (show W.heap.size < w1.heap.size by omega)).trans c1
  have c2 : w2.cell? ⟨W.heap.size, 2, none⟩ = some (.string s1) := (hb2.cell (p := ⟨W.heap.size, 2, none⟩) (show W.heap.size < w1.heap.size by omega)).trans c2
  have d0 : w2.cell? ⟨W.heap.size + 1, 0, none⟩ = some (.int .i64 t2) := (hb2.cell (p := ⟨W.heap.size + 1, 0, none⟩) (show W.heap.size + 1 < w1.heap.size by omega)).trans d0
  have d1 : w2.cell? ⟨W.heap.size + 1, 1, none⟩ = some (.string k2) := (hb2.cell (p := ⟨W.heap.size + 1, 1, none⟩) (show W.heap.size + 1 < w1.heap.size by omega)).trans d1
  have d2 : w2.cell? ⟨W.heap.size + 1, 2, none⟩ = some (.string s2) := (hb2.cell (p := ⟨W.heap.size + 1, 2, none⟩) (show W.heap.size + 1 < w1.heap.size by omega)).trans d2
  have l1 : W.heap.size < w2.heap.size := by omega
  have l2 : W.heap.size + 1 < w2.heap.size := by omega
  clear e0 e1 e2 f0 f1 f2 q0 q1 q2 g0 g1 g2
  go_wp2_with (fail)
  refine (H13b.out _).mono ?_
  rintro e w3 ⟨rfl, hb3⟩
  have hs3 := hb3.size
  have c0 : w3.cell? ⟨W.heap.size, 0, none⟩ = some (.int .i64 t1) := (hb3.cell (p := ⟨W.heap.size, 0, none⟩) l1).trans c0
  have c1 : w3.cell? ⟨W.heap.size, 1, none⟩ = some (.string k1) := (hb3.cell (p := ⟨W.heap.size, 1, none⟩) l1).trans c1
  have c2 : w3.cell? ⟨W.heap.size, 2, none⟩ = some (.string s1) := (hb3.cell (p := ⟨W.heap.size, 2, none⟩) l1).trans c2
  have d0 : w3.cell? ⟨W.heap.size + 1, 0, none⟩ = some (.int .i64 t2) := (hb3.cell (p := ⟨W.heap.size + 1, 0, none⟩) l2).trans d0
  have d1 : w3.cell? ⟨W.heap.size + 1, 1, none⟩ = some (.string k2) := (hb3.cell (p := ⟨W.heap.size + 1, 1, none⟩) l2).trans d1
  have d2 : w3.cell? ⟨W.heap.size + 1, 2, none⟩ = some (.string s2) := (hb3.cell (p := ⟨W.heap.size + 1, 2, none⟩) l2).trans d2
  have l3 : W.heap.size < w3.heap.size := by omega
  have l4 : W.heap.size + 1 < w3.heap.size := by omega
  go_wp2_with (fail)
  refine (H13c.out _).mono ?_
  rintro e w4 ⟨rfl, hb4⟩
  go_wp2_with (fail)
  refine (awake_any _).mono ?_
  rintro e w5 ⟨rfl, hb5⟩
  go_wp2_with (fail)
  go_ret
  exact ⟨rfl, bl_then (bl_then (bl_then (bl_then hbl hb2) hb3) hb4) hb5⟩
set_option maxRecDepth 100000 in
set_option maxHeartbeats 2000000 in
theorem order_mpmk (t1 : Int) (k1 s1 : ByteArray) (k2 : ByteArray) (s2 : ByteArray) (t3 : Int) (k3 s3 : ByteArray) (W : World) (hne : (k1.toList == k2.toList) = false) (hx : cmpT ⟨t1, k1, s1⟩ ⟨t1, k2, s2⟩ = (-1)) (hy : cmpT ⟨t1, k2, s2⟩ ⟨t3, k3, s3⟩ = (1)) (hz : cmpT ⟨t1, k1, s1⟩ ⟨t3, k3, s3⟩ = (-1)) :
    Calls Try.prog 4 #[.agg #[.int .i64 t1, .string k1, .string s1], .agg #[.int .i64 t1, .string k2, .string s2], .agg #[.int .i64 t3, .string k3, .string s3]] W fun e w' => e = .returned (.bool true) ∧ Below W.heap.size W w' := by
  have H13 : Hid (∀ (t1 : Int) (k1 s1 : ByteArray) (t2 : Int) (k2 s2 : ByteArray) w, Calls Try.prog 13 #[.agg #[.int .i64 t1, .string k1, .string s1], .agg #[.int .i64 t2, .string k2, .string s2]] w fun e w' => e = .returned (.int .i64 (cmpT ⟨t1, k1, s1⟩ ⟨t2, k2, s2⟩)) ∧ Below w.heap.size w w') := Lib.hid fun t1 k1 s1 t2 k2 s2 w => cmp_any _ _ _ _ _ _ w _ rfl
  have H13b : Hid (∀ w, Calls Try.prog 13 #[.agg #[.int .i64 t1, .string k2, .string s2], .agg #[.int .i64 t1, .string k1, .string s1]] w fun e w' => e = .returned (.int .i64 (1)) ∧ Below w.heap.size w w') := Lib.hid fun w => cmp_any _ _ _ _ _ _ w _ (by have := cmpT_neg ⟨t1, k1, s1⟩ ⟨t1, k2, s2⟩; rw [hx] at this; omega)
  have H13c : Hid (∀ w, Calls Try.prog 13 #[.agg #[.int .i64 t1, .string k1, .string s1], .agg #[.int .i64 t1, .string k1, .string s1]] w fun e w' => e = .returned (.int .i64 0) ∧ Below w.heap.size w w') := Lib.hid fun w => cmp_any _ _ _ _ _ _ w _ (cmpT_zero.2 rfl)
  have HX := Lib.hid hx
  have HY := Lib.hid hy
  have HZ := Lib.hid hz
  clear hx hy hz
  go_enter Try.func4, Try.ntmps4
  go_wp2_with (fail)
  have hbl : Below W.heap.size W (((W.alloc (Obj.cells #[.int .i64 t1, .string k1, .string s1] 23)).alloc (Obj.cells #[.int .i64 t1, .string k2, .string s2] 23)).alloc (Obj.cells #[.int .i64 t3, .string k3, .string s3] 23)) := bl_alloc (bl_alloc (bl_alloc (Below.refl _ _) _) _) _
  have c0 : (((W.alloc (Obj.cells #[.int .i64 t1, .string k1, .string s1] 23)).alloc (Obj.cells #[.int .i64 t1, .string k2, .string s2] 23)).alloc (Obj.cells #[.int .i64 t3, .string k3, .string s3] 23)).cell? ⟨W.heap.size, 0, none⟩ = some (.int .i64 t1) := by go_keep
  have c1 : (((W.alloc (Obj.cells #[.int .i64 t1, .string k1, .string s1] 23)).alloc (Obj.cells #[.int .i64 t1, .string k2, .string s2] 23)).alloc (Obj.cells #[.int .i64 t3, .string k3, .string s3] 23)).cell? ⟨W.heap.size, 1, none⟩ = some (.string k1) := by go_keep
  have c2 : (((W.alloc (Obj.cells #[.int .i64 t1, .string k1, .string s1] 23)).alloc (Obj.cells #[.int .i64 t1, .string k2, .string s2] 23)).alloc (Obj.cells #[.int .i64 t3, .string k3, .string s3] 23)).cell? ⟨W.heap.size, 2, none⟩ = some (.string s1) := by go_keep
  have d0 : (((W.alloc (Obj.cells #[.int .i64 t1, .string k1, .string s1] 23)).alloc (Obj.cells #[.int .i64 t1, .string k2, .string s2] 23)).alloc (Obj.cells #[.int .i64 t3, .string k3, .string s3] 23)).cell? ⟨W.heap.size + 1, 0, none⟩ = some (.int .i64 t1) := by go_keep
  have d1 : (((W.alloc (Obj.cells #[.int .i64 t1, .string k1, .string s1] 23)).alloc (Obj.cells #[.int .i64 t1, .string k2, .string s2] 23)).alloc (Obj.cells #[.int .i64 t3, .string k3, .string s3] 23)).cell? ⟨W.heap.size + 1, 1, none⟩ = some (.string k2) := by go_keep
  have d2 : (((W.alloc (Obj.cells #[.int .i64 t1, .string k1, .string s1] 23)).alloc (Obj.cells #[.int .i64 t1, .string k2, .string s2] 23)).alloc (Obj.cells #[.int .i64 t3, .string k3, .string s3] 23)).cell? ⟨W.heap.size + 1, 2, none⟩ = some (.string s2) := by go_keep
  have g0 : (((W.alloc (Obj.cells #[.int .i64 t1, .string k1, .string s1] 23)).alloc (Obj.cells #[.int .i64 t1, .string k2, .string s2] 23)).alloc (Obj.cells #[.int .i64 t3, .string k3, .string s3] 23)).cell? ⟨W.heap.size + 1 + 1, 0, none⟩ = some (.int .i64 t3) := tri_cell _ _ _ _ _ rfl
  have g1 : (((W.alloc (Obj.cells #[.int .i64 t1, .string k1, .string s1] 23)).alloc (Obj.cells #[.int .i64 t1, .string k2, .string s2] 23)).alloc (Obj.cells #[.int .i64 t3, .string k3, .string s3] 23)).cell? ⟨W.heap.size + 1 + 1, 1, none⟩ = some (.string k3) := tri_cell _ _ _ _ _ rfl
  have g2 : (((W.alloc (Obj.cells #[.int .i64 t1, .string k1, .string s1] 23)).alloc (Obj.cells #[.int .i64 t1, .string k2, .string s2] 23)).alloc (Obj.cells #[.int .i64 t3, .string k3, .string s3] 23)).cell? ⟨W.heap.size + 1 + 1, 2, none⟩ = some (.string s3) := tri_cell _ _ _ _ _ rfl
  have l0 : W.heap.size + 1 + 1 < (((W.alloc (Obj.cells #[.int .i64 t1, .string k1, .string s1] 23)).alloc (Obj.cells #[.int .i64 t1, .string k2, .string s2] 23)).alloc (Obj.cells #[.int .i64 t3, .string k3, .string s3] 23)).heap.size := by simp
  generalize (((W.alloc (Obj.cells #[.int .i64 t1, .string k1, .string s1] 23)).alloc (Obj.cells #[.int .i64 t1, .string k2, .string s2] 23)).alloc (Obj.cells #[.int .i64 t3, .string k3, .string s3] 23)) = w1 at *
  have e0 := ext_cell c0
  have e1 := ext_cell c1
  have e2 := ext_cell c2
  have f0 := ext_cell d0
  have f1 := ext_cell d1
  have f2 := ext_cell d2
  have q0 := ext_cell g0
  have q1 := ext_cell g1
  have q2 := ext_cell g2
  refine wp_region_ext (by kernel_rfl) (by kernel_rfl) ?_
  repeat (go_big_quiet_step ((go_at_call 13; exact ext_calls (H13.out _ _ _ _ _ _ _))))
  refine wpQuiet_nil ?_
  rintro w2 ⟨⟨_, hb2⟩, rfl⟩
  simp only [HX.out, HY.out, HZ.out]
  have hs2 := hb2.size
  have c0 : w2.cell? ⟨W.heap.size, 0, none⟩ = some (.int .i64 t1) := (hb2.cell (p := ⟨W.heap.size, 0, none⟩) (show W.heap.size < w1.heap.size by omega)).trans c0
  have c1 : w2.cell? ⟨W.heap.size, 1, none⟩ = some (.string k1) := (hb2.cell (p := ⟨W.heap.size, 1, none⟩) (show W.heap.size < w1.heap.size by omega)).trans c1
  have c2 : w2.cell? ⟨W.heap.size, 2, none⟩ = some (.string s1) := (hb2.cell (p := ⟨W.heap.size, 2, none⟩) (show W.heap.size < w1.heap.size by omega)).trans c2
  have d0 : w2.cell? ⟨W.heap.size + 1, 0, none⟩ = some (.int .i64 t1) := (hb2.cell (p := ⟨W.heap.size + 1, 0, none⟩) (show W.heap.size + 1 < w1.heap.size by omega)).trans d0
  have d1 : w2.cell? ⟨W.heap.size + 1, 1, none⟩ = some (.string k2) := (hb2.cell (p := ⟨W.heap.size + 1, 1, none⟩) (show W.heap.size + 1 < w1.heap.size by omega)).trans d1
  have d2 : w2.cell? ⟨W.heap.size + 1, 2, none⟩ = some (.string s2) := (hb2.cell (p := ⟨W.heap.size + 1, 2, none⟩) (show W.heap.size + 1 < w1.heap.size by omega)).trans d2
  have l1 : W.heap.size < w2.heap.size := by omega
  have l2 : W.heap.size + 1 < w2.heap.size := by omega
  clear e0 e1 e2 f0 f1 f2 q0 q1 q2 g0 g1 g2
  go_wp2_with (fail)
  refine (H13b.out _).mono ?_
  rintro e w3 ⟨rfl, hb3⟩
  have hs3 := hb3.size
  have c0 : w3.cell? ⟨W.heap.size, 0, none⟩ = some (.int .i64 t1) := (hb3.cell (p := ⟨W.heap.size, 0, none⟩) l1).trans c0
  have c1 : w3.cell? ⟨W.heap.size, 1, none⟩ = some (.string k1) := (hb3.cell (p := ⟨W.heap.size, 1, none⟩) l1).trans c1
  have c2 : w3.cell? ⟨W.heap.size, 2, none⟩ = some (.string s1) := (hb3.cell (p := ⟨W.heap.size, 2, none⟩) l1).trans c2
  have d0 : w3.cell? ⟨W.heap.size + 1, 0, none⟩ = some (.int .i64 t1) := (hb3.cell (p := ⟨W.heap.size + 1, 0, none⟩) l2).trans d0
  have d1 : w3.cell? ⟨W.heap.size + 1, 1, none⟩ = some (.string k2) := (hb3.cell (p := ⟨W.heap.size + 1, 1, none⟩) l2).trans d1
  have d2 : w3.cell? ⟨W.heap.size + 1, 2, none⟩ = some (.string s2) := (hb3.cell (p := ⟨W.heap.size + 1, 2, none⟩) l2).trans d2
  have l3 : W.heap.size < w3.heap.size := by omega
  have l4 : W.heap.size + 1 < w3.heap.size := by omega
  go_wp2_with (fail)
  refine (H13c.out _).mono ?_
  rintro e w4 ⟨rfl, hb4⟩
  go_wp2_with (fail)
  refine (awake_any _).mono ?_
  rintro e w5 ⟨rfl, hb5⟩
  go_wp2_with (fail)
  go_ret
  exact ⟨rfl, bl_then (bl_then (bl_then (bl_then hbl hb2) hb3) hb4) hb5⟩
set_option maxRecDepth 100000 in
set_option maxHeartbeats 2000000 in
theorem order_mpms (t1 : Int) (k1 s1 : ByteArray) (s2 : ByteArray) (t3 : Int) (k3 s3 : ByteArray) (W : World) (hne : (s1.toList == s2.toList) = false) (hx : cmpT ⟨t1, k1, s1⟩ ⟨t1, k1, s2⟩ = (-1)) (hy : cmpT ⟨t1, k1, s2⟩ ⟨t3, k3, s3⟩ = (1)) (hz : cmpT ⟨t1, k1, s1⟩ ⟨t3, k3, s3⟩ = (-1)) :
    Calls Try.prog 4 #[.agg #[.int .i64 t1, .string k1, .string s1], .agg #[.int .i64 t1, .string k1, .string s2], .agg #[.int .i64 t3, .string k3, .string s3]] W fun e w' => e = .returned (.bool true) ∧ Below W.heap.size W w' := by
  have H13 : Hid (∀ (t1 : Int) (k1 s1 : ByteArray) (t2 : Int) (k2 s2 : ByteArray) w, Calls Try.prog 13 #[.agg #[.int .i64 t1, .string k1, .string s1], .agg #[.int .i64 t2, .string k2, .string s2]] w fun e w' => e = .returned (.int .i64 (cmpT ⟨t1, k1, s1⟩ ⟨t2, k2, s2⟩)) ∧ Below w.heap.size w w') := Lib.hid fun t1 k1 s1 t2 k2 s2 w => cmp_any _ _ _ _ _ _ w _ rfl
  have H13b : Hid (∀ w, Calls Try.prog 13 #[.agg #[.int .i64 t1, .string k1, .string s2], .agg #[.int .i64 t1, .string k1, .string s1]] w fun e w' => e = .returned (.int .i64 (1)) ∧ Below w.heap.size w w') := Lib.hid fun w => cmp_any _ _ _ _ _ _ w _ (by have := cmpT_neg ⟨t1, k1, s1⟩ ⟨t1, k1, s2⟩; rw [hx] at this; omega)
  have H13c : Hid (∀ w, Calls Try.prog 13 #[.agg #[.int .i64 t1, .string k1, .string s1], .agg #[.int .i64 t1, .string k1, .string s1]] w fun e w' => e = .returned (.int .i64 0) ∧ Below w.heap.size w w') := Lib.hid fun w => cmp_any _ _ _ _ _ _ w _ (cmpT_zero.2 rfl)
  have HX := Lib.hid hx
  have HY := Lib.hid hy
  have HZ := Lib.hid hz
  clear hx hy hz
  go_enter Try.func4, Try.ntmps4
  go_wp2_with (fail)
  have hbl : Below W.heap.size W (((W.alloc (Obj.cells #[.int .i64 t1, .string k1, .string s1] 23)).alloc (Obj.cells #[.int .i64 t1, .string k1, .string s2] 23)).alloc (Obj.cells #[.int .i64 t3, .string k3, .string s3] 23)) := bl_alloc (bl_alloc (bl_alloc (Below.refl _ _) _) _) _
  have c0 : (((W.alloc (Obj.cells #[.int .i64 t1, .string k1, .string s1] 23)).alloc (Obj.cells #[.int .i64 t1, .string k1, .string s2] 23)).alloc (Obj.cells #[.int .i64 t3, .string k3, .string s3] 23)).cell? ⟨W.heap.size, 0, none⟩ = some (.int .i64 t1) := by go_keep
  have c1 : (((W.alloc (Obj.cells #[.int .i64 t1, .string k1, .string s1] 23)).alloc (Obj.cells #[.int .i64 t1, .string k1, .string s2] 23)).alloc (Obj.cells #[.int .i64 t3, .string k3, .string s3] 23)).cell? ⟨W.heap.size, 1, none⟩ = some (.string k1) := by go_keep
  have c2 : (((W.alloc (Obj.cells #[.int .i64 t1, .string k1, .string s1] 23)).alloc (Obj.cells #[.int .i64 t1, .string k1, .string s2] 23)).alloc (Obj.cells #[.int .i64 t3, .string k3, .string s3] 23)).cell? ⟨W.heap.size, 2, none⟩ = some (.string s1) := by go_keep
  have d0 : (((W.alloc (Obj.cells #[.int .i64 t1, .string k1, .string s1] 23)).alloc (Obj.cells #[.int .i64 t1, .string k1, .string s2] 23)).alloc (Obj.cells #[.int .i64 t3, .string k3, .string s3] 23)).cell? ⟨W.heap.size + 1, 0, none⟩ = some (.int .i64 t1) := by go_keep
  have d1 : (((W.alloc (Obj.cells #[.int .i64 t1, .string k1, .string s1] 23)).alloc (Obj.cells #[.int .i64 t1, .string k1, .string s2] 23)).alloc (Obj.cells #[.int .i64 t3, .string k3, .string s3] 23)).cell? ⟨W.heap.size + 1, 1, none⟩ = some (.string k1) := by go_keep
  have d2 : (((W.alloc (Obj.cells #[.int .i64 t1, .string k1, .string s1] 23)).alloc (Obj.cells #[.int .i64 t1, .string k1, .string s2] 23)).alloc (Obj.cells #[.int .i64 t3, .string k3, .string s3] 23)).cell? ⟨W.heap.size + 1, 2, none⟩ = some (.string s2) := by go_keep
  have g0 : (((W.alloc (Obj.cells #[.int .i64 t1, .string k1, .string s1] 23)).alloc (Obj.cells #[.int .i64 t1, .string k1, .string s2] 23)).alloc (Obj.cells #[.int .i64 t3, .string k3, .string s3] 23)).cell? ⟨W.heap.size + 1 + 1, 0, none⟩ = some (.int .i64 t3) := tri_cell _ _ _ _ _ rfl
  have g1 : (((W.alloc (Obj.cells #[.int .i64 t1, .string k1, .string s1] 23)).alloc (Obj.cells #[.int .i64 t1, .string k1, .string s2] 23)).alloc (Obj.cells #[.int .i64 t3, .string k3, .string s3] 23)).cell? ⟨W.heap.size + 1 + 1, 1, none⟩ = some (.string k3) := tri_cell _ _ _ _ _ rfl
  have g2 : (((W.alloc (Obj.cells #[.int .i64 t1, .string k1, .string s1] 23)).alloc (Obj.cells #[.int .i64 t1, .string k1, .string s2] 23)).alloc (Obj.cells #[.int .i64 t3, .string k3, .string s3] 23)).cell? ⟨W.heap.size + 1 + 1, 2, none⟩ = some (.string s3) := tri_cell _ _ _ _ _ rfl
  have l0 : W.heap.size + 1 + 1 < (((W.alloc (Obj.cells #[.int .i64 t1, .string k1, .string s1] 23)).alloc (Obj.cells #[.int .i64 t1, .string k1, .string s2] 23)).alloc (Obj.cells #[.int .i64 t3, .string k3, .string s3] 23)).heap.size := by simp
  generalize (((W.alloc (Obj.cells #[.int .i64 t1, .string k1, .string s1] 23)).alloc (Obj.cells #[.int .i64 t1, .string k1, .string s2] 23)).alloc (Obj.cells #[.int .i64 t3, .string k3, .string s3] 23)) = w1 at *
  have e0 := ext_cell c0
  have e1 := ext_cell c1
  have e2 := ext_cell c2
  have f0 := ext_cell d0
  have f1 := ext_cell d1
  have f2 := ext_cell d2
  have q0 := ext_cell g0
  have q1 := ext_cell g1
  have q2 := ext_cell g2
  refine wp_region_ext (by kernel_rfl) (by kernel_rfl) ?_
  repeat (go_big_quiet_step ((go_at_call 13; exact ext_calls (H13.out _ _ _ _ _ _ _))))
  refine wpQuiet_nil ?_
  rintro w2 ⟨⟨_, hb2⟩, rfl⟩
  simp only [HX.out, HY.out, HZ.out]
  have hs2 := hb2.size
  have c0 : w2.cell? ⟨W.heap.size, 0, none⟩ = some (.int .i64 t1) := (hb2.cell (p := ⟨W.heap.size, 0, none⟩) (show W.heap.size < w1.heap.size by omega)).trans c0
  have c1 : w2.cell? ⟨W.heap.size, 1, none⟩ = some (.string k1) := (hb2.cell (p := ⟨W.heap.size, 1, none⟩) (show W.heap.size < w1.heap.size by omega)).trans c1
  have c2 : w2.cell? ⟨W.heap.size, 2, none⟩ = some (.string s1) := (hb2.cell (p := ⟨W.heap.size, 2, none⟩) (show W.heap.size < w1.heap.size by omega)).trans c2
  have d0 : w2.cell? ⟨W.heap.size + 1, 0, none⟩ = some (.int .i64 t1) := (hb2.cell (p := ⟨W.heap.size + 1, 0, none⟩) (show W.heap.size + 1 < w1.heap.size by omega)).trans d0
  have d1 : w2.cell? ⟨W.heap.size + 1, 1, none⟩ = some (.string k1) := (hb2.cell (p := ⟨W.heap.size + 1, 1, none⟩) (show W.heap.size + 1 < w1.heap.size by omega)).trans d1
  have d2 : w2.cell? ⟨W.heap.size + 1, 2, none⟩ = some (.string s2) := (hb2.cell (p := ⟨W.heap.size + 1, 2, none⟩) (show W.heap.size + 1 < w1.heap.size by omega)).trans d2
  have l1 : W.heap.size < w2.heap.size := by omega
  have l2 : W.heap.size + 1 < w2.heap.size := by omega
  clear e0 e1 e2 f0 f1 f2 q0 q1 q2 g0 g1 g2
  go_wp2_with (fail)
  refine (H13b.out _).mono ?_
  rintro e w3 ⟨rfl, hb3⟩
  have hs3 := hb3.size
  have c0 : w3.cell? ⟨W.heap.size, 0, none⟩ = some (.int .i64 t1) := (hb3.cell (p := ⟨W.heap.size, 0, none⟩) l1).trans c0
  have c1 : w3.cell? ⟨W.heap.size, 1, none⟩ = some (.string k1) := (hb3.cell (p := ⟨W.heap.size, 1, none⟩) l1).trans c1
  have c2 : w3.cell? ⟨W.heap.size, 2, none⟩ = some (.string s1) := (hb3.cell (p := ⟨W.heap.size, 2, none⟩) l1).trans c2
  have d0 : w3.cell? ⟨W.heap.size + 1, 0, none⟩ = some (.int .i64 t1) := (hb3.cell (p := ⟨W.heap.size + 1, 0, none⟩) l2).trans d0
  have d1 : w3.cell? ⟨W.heap.size + 1, 1, none⟩ = some (.string k1) := (hb3.cell (p := ⟨W.heap.size + 1, 1, none⟩) l2).trans d1
  have d2 : w3.cell? ⟨W.heap.size + 1, 2, none⟩ = some (.string s2) := (hb3.cell (p := ⟨W.heap.size + 1, 2, none⟩) l2).trans d2
  have l3 : W.heap.size < w3.heap.size := by omega
  have l4 : W.heap.size + 1 < w3.heap.size := by omega
  go_wp2_with (fail)
  refine (H13c.out _).mono ?_
  rintro e w4 ⟨rfl, hb4⟩
  go_wp2_with (fail)
  refine (awake_any _).mono ?_
  rintro e w5 ⟨rfl, hb5⟩
  go_wp2_with (fail)
  go_ret
  exact ⟨rfl, bl_then (bl_then (bl_then (bl_then hbl hb2) hb3) hb4) hb5⟩
set_option maxRecDepth 100000 in
set_option maxHeartbeats 2000000 in
theorem order_mpzt (t1 : Int) (k1 s1 : ByteArray) (t2 : Int) (k2 : ByteArray) (s2 : ByteArray) (t3 : Int) (k3 s3 : ByteArray) (W : World) (hne : ¬ t1 = t2) (hx : cmpT ⟨t1, k1, s1⟩ ⟨t2, k2, s2⟩ = (-1)) (hy : cmpT ⟨t2, k2, s2⟩ ⟨t3, k3, s3⟩ = (1)) (hz : cmpT ⟨t1, k1, s1⟩ ⟨t3, k3, s3⟩ = (0)) :
    Calls Try.prog 4 #[.agg #[.int .i64 t1, .string k1, .string s1], .agg #[.int .i64 t2, .string k2, .string s2], .agg #[.int .i64 t3, .string k3, .string s3]] W fun e w' => e = .returned (.bool true) ∧ Below W.heap.size W w' := by
  have H13 : Hid (∀ (t1 : Int) (k1 s1 : ByteArray) (t2 : Int) (k2 s2 : ByteArray) w, Calls Try.prog 13 #[.agg #[.int .i64 t1, .string k1, .string s1], .agg #[.int .i64 t2, .string k2, .string s2]] w fun e w' => e = .returned (.int .i64 (cmpT ⟨t1, k1, s1⟩ ⟨t2, k2, s2⟩)) ∧ Below w.heap.size w w') := Lib.hid fun t1 k1 s1 t2 k2 s2 w => cmp_any _ _ _ _ _ _ w _ rfl
  have H13b : Hid (∀ w, Calls Try.prog 13 #[.agg #[.int .i64 t2, .string k2, .string s2], .agg #[.int .i64 t1, .string k1, .string s1]] w fun e w' => e = .returned (.int .i64 (1)) ∧ Below w.heap.size w w') := Lib.hid fun w => cmp_any _ _ _ _ _ _ w _ (by have := cmpT_neg ⟨t1, k1, s1⟩ ⟨t2, k2, s2⟩; rw [hx] at this; omega)
  have H13c : Hid (∀ w, Calls Try.prog 13 #[.agg #[.int .i64 t1, .string k1, .string s1], .agg #[.int .i64 t1, .string k1, .string s1]] w fun e w' => e = .returned (.int .i64 0) ∧ Below w.heap.size w w') := Lib.hid fun w => cmp_any _ _ _ _ _ _ w _ (cmpT_zero.2 rfl)
  have HX := Lib.hid hx
  have HY := Lib.hid hy
  have HZ := Lib.hid hz
  clear hx hy hz
  go_enter Try.func4, Try.ntmps4
  go_wp2_with (fail)
  have hbl : Below W.heap.size W (((W.alloc (Obj.cells #[.int .i64 t1, .string k1, .string s1] 23)).alloc (Obj.cells #[.int .i64 t2, .string k2, .string s2] 23)).alloc (Obj.cells #[.int .i64 t3, .string k3, .string s3] 23)) := bl_alloc (bl_alloc (bl_alloc (Below.refl _ _) _) _) _
  have c0 : (((W.alloc (Obj.cells #[.int .i64 t1, .string k1, .string s1] 23)).alloc (Obj.cells #[.int .i64 t2, .string k2, .string s2] 23)).alloc (Obj.cells #[.int .i64 t3, .string k3, .string s3] 23)).cell? ⟨W.heap.size, 0, none⟩ = some (.int .i64 t1) := by go_keep
  have c1 : (((W.alloc (Obj.cells #[.int .i64 t1, .string k1, .string s1] 23)).alloc (Obj.cells #[.int .i64 t2, .string k2, .string s2] 23)).alloc (Obj.cells #[.int .i64 t3, .string k3, .string s3] 23)).cell? ⟨W.heap.size, 1, none⟩ = some (.string k1) := by go_keep
  have c2 : (((W.alloc (Obj.cells #[.int .i64 t1, .string k1, .string s1] 23)).alloc (Obj.cells #[.int .i64 t2, .string k2, .string s2] 23)).alloc (Obj.cells #[.int .i64 t3, .string k3, .string s3] 23)).cell? ⟨W.heap.size, 2, none⟩ = some (.string s1) := by go_keep
  have d0 : (((W.alloc (Obj.cells #[.int .i64 t1, .string k1, .string s1] 23)).alloc (Obj.cells #[.int .i64 t2, .string k2, .string s2] 23)).alloc (Obj.cells #[.int .i64 t3, .string k3, .string s3] 23)).cell? ⟨W.heap.size + 1, 0, none⟩ = some (.int .i64 t2) := by go_keep
  have d1 : (((W.alloc (Obj.cells #[.int .i64 t1, .string k1, .string s1] 23)).alloc (Obj.cells #[.int .i64 t2, .string k2, .string s2] 23)).alloc (Obj.cells #[.int .i64 t3, .string k3, .string s3] 23)).cell? ⟨W.heap.size + 1, 1, none⟩ = some (.string k2) := by go_keep
  have d2 : (((W.alloc (Obj.cells #[.int .i64 t1, .string k1, .string s1] 23)).alloc (Obj.cells #[.int .i64 t2, .string k2, .string s2] 23)).alloc (Obj.cells #[.int .i64 t3, .string k3, .string s3] 23)).cell? ⟨W.heap.size + 1, 2, none⟩ = some (.string s2) := by go_keep
  have g0 : (((W.alloc (Obj.cells #[.int .i64 t1, .string k1, .string s1] 23)).alloc (Obj.cells #[.int .i64 t2, .string k2, .string s2] 23)).alloc (Obj.cells #[.int .i64 t3, .string k3, .string s3] 23)).cell? ⟨W.heap.size + 1 + 1, 0, none⟩ = some (.int .i64 t3) := tri_cell _ _ _ _ _ rfl
  have g1 : (((W.alloc (Obj.cells #[.int .i64 t1, .string k1, .string s1] 23)).alloc (Obj.cells #[.int .i64 t2, .string k2, .string s2] 23)).alloc (Obj.cells #[.int .i64 t3, .string k3, .string s3] 23)).cell? ⟨W.heap.size + 1 + 1, 1, none⟩ = some (.string k3) := tri_cell _ _ _ _ _ rfl
  have g2 : (((W.alloc (Obj.cells #[.int .i64 t1, .string k1, .string s1] 23)).alloc (Obj.cells #[.int .i64 t2, .string k2, .string s2] 23)).alloc (Obj.cells #[.int .i64 t3, .string k3, .string s3] 23)).cell? ⟨W.heap.size + 1 + 1, 2, none⟩ = some (.string s3) := tri_cell _ _ _ _ _ rfl
  have l0 : W.heap.size + 1 + 1 < (((W.alloc (Obj.cells #[.int .i64 t1, .string k1, .string s1] 23)).alloc (Obj.cells #[.int .i64 t2, .string k2, .string s2] 23)).alloc (Obj.cells #[.int .i64 t3, .string k3, .string s3] 23)).heap.size := by simp
  generalize (((W.alloc (Obj.cells #[.int .i64 t1, .string k1, .string s1] 23)).alloc (Obj.cells #[.int .i64 t2, .string k2, .string s2] 23)).alloc (Obj.cells #[.int .i64 t3, .string k3, .string s3] 23)) = w1 at *
  have e0 := ext_cell c0
  have e1 := ext_cell c1
  have e2 := ext_cell c2
  have f0 := ext_cell d0
  have f1 := ext_cell d1
  have f2 := ext_cell d2
  have q0 := ext_cell g0
  have q1 := ext_cell g1
  have q2 := ext_cell g2
  refine wp_region_ext (by kernel_rfl) (by kernel_rfl) ?_
  repeat (go_big_quiet_step ((go_at_call 13; exact ext_calls (H13.out _ _ _ _ _ _ _))))
  refine wpQuiet_nil ?_
  rintro w2 ⟨⟨_, hb2⟩, rfl⟩
  simp only [HX.out, HY.out, HZ.out]
  have hs2 := hb2.size
  have c0 : w2.cell? ⟨W.heap.size, 0, none⟩ = some (.int .i64 t1) := (hb2.cell (p := ⟨W.heap.size, 0, none⟩) (show W.heap.size < w1.heap.size by omega)).trans c0
  have c1 : w2.cell? ⟨W.heap.size, 1, none⟩ = some (.string k1) := (hb2.cell (p := ⟨W.heap.size, 1, none⟩) (show W.heap.size < w1.heap.size by omega)).trans c1
  have c2 : w2.cell? ⟨W.heap.size, 2, none⟩ = some (.string s1) := (hb2.cell (p := ⟨W.heap.size, 2, none⟩) (show W.heap.size < w1.heap.size by omega)).trans c2
  have d0 : w2.cell? ⟨W.heap.size + 1, 0, none⟩ = some (.int .i64 t2) := (hb2.cell (p := ⟨W.heap.size + 1, 0, none⟩) (show W.heap.size + 1 < w1.heap.size by omega)).trans d0
  have d1 : w2.cell? ⟨W.heap.size + 1, 1, none⟩ = some (.string k2) := (hb2.cell (p := ⟨W.heap.size + 1, 1, none⟩) (show W.heap.size + 1 < w1.heap.size by omega)).trans d1
  have d2 : w2.cell? ⟨W.heap.size + 1, 2, none⟩ = some (.string s2) := (hb2.cell (p := ⟨W.heap.size + 1, 2, none⟩) (show W.heap.size + 1 < w1.heap.size by omega)).trans d2
  have l1 : W.heap.size < w2.heap.size := by omega
  have l2 : W.heap.size + 1 < w2.heap.size := by omega
  clear e0 e1 e2 f0 f1 f2 q0 q1 q2 g0 g1 g2
  go_wp2_with (fail)
  refine (H13b.out _).mono ?_
  rintro e w3 ⟨rfl, hb3⟩
  have hs3 := hb3.size
  have c0 : w3.cell? ⟨W.heap.size, 0, none⟩ = some (.int .i64 t1) := (hb3.cell (p := ⟨W.heap.size, 0, none⟩) l1).trans c0
  have c1 : w3.cell? ⟨W.heap.size, 1, none⟩ = some (.string k1) := (hb3.cell (p := ⟨W.heap.size, 1, none⟩) l1).trans c1
  have c2 : w3.cell? ⟨W.heap.size, 2, none⟩ = some (.string s1) := (hb3.cell (p := ⟨W.heap.size, 2, none⟩) l1).trans c2
  have d0 : w3.cell? ⟨W.heap.size + 1, 0, none⟩ = some (.int .i64 t2) := (hb3.cell (p := ⟨W.heap.size + 1, 0, none⟩) l2).trans d0
  have d1 : w3.cell? ⟨W.heap.size + 1, 1, none⟩ = some (.string k2) := (hb3.cell (p := ⟨W.heap.size + 1, 1, none⟩) l2).trans d1
  have d2 : w3.cell? ⟨W.heap.size + 1, 2, none⟩ = some (.string s2) := (hb3.cell (p := ⟨W.heap.size + 1, 2, none⟩) l2).trans d2
  have l3 : W.heap.size < w3.heap.size := by omega
  have l4 : W.heap.size + 1 < w3.heap.size := by omega
  go_wp2_with (fail)
  refine (H13c.out _).mono ?_
  rintro e w4 ⟨rfl, hb4⟩
  go_wp2_with (fail)
  refine (awake_any _).mono ?_
  rintro e w5 ⟨rfl, hb5⟩
  go_wp2_with (fail)
  go_ret
  exact ⟨rfl, bl_then (bl_then (bl_then (bl_then hbl hb2) hb3) hb4) hb5⟩
set_option maxRecDepth 100000 in
set_option maxHeartbeats 2000000 in
theorem order_mpzk (t1 : Int) (k1 s1 : ByteArray) (k2 : ByteArray) (s2 : ByteArray) (t3 : Int) (k3 s3 : ByteArray) (W : World) (hne : (k1.toList == k2.toList) = false) (hx : cmpT ⟨t1, k1, s1⟩ ⟨t1, k2, s2⟩ = (-1)) (hy : cmpT ⟨t1, k2, s2⟩ ⟨t3, k3, s3⟩ = (1)) (hz : cmpT ⟨t1, k1, s1⟩ ⟨t3, k3, s3⟩ = (0)) :
    Calls Try.prog 4 #[.agg #[.int .i64 t1, .string k1, .string s1], .agg #[.int .i64 t1, .string k2, .string s2], .agg #[.int .i64 t3, .string k3, .string s3]] W fun e w' => e = .returned (.bool true) ∧ Below W.heap.size W w' := by
  have H13 : Hid (∀ (t1 : Int) (k1 s1 : ByteArray) (t2 : Int) (k2 s2 : ByteArray) w, Calls Try.prog 13 #[.agg #[.int .i64 t1, .string k1, .string s1], .agg #[.int .i64 t2, .string k2, .string s2]] w fun e w' => e = .returned (.int .i64 (cmpT ⟨t1, k1, s1⟩ ⟨t2, k2, s2⟩)) ∧ Below w.heap.size w w') := Lib.hid fun t1 k1 s1 t2 k2 s2 w => cmp_any _ _ _ _ _ _ w _ rfl
  have H13b : Hid (∀ w, Calls Try.prog 13 #[.agg #[.int .i64 t1, .string k2, .string s2], .agg #[.int .i64 t1, .string k1, .string s1]] w fun e w' => e = .returned (.int .i64 (1)) ∧ Below w.heap.size w w') := Lib.hid fun w => cmp_any _ _ _ _ _ _ w _ (by have := cmpT_neg ⟨t1, k1, s1⟩ ⟨t1, k2, s2⟩; rw [hx] at this; omega)
  have H13c : Hid (∀ w, Calls Try.prog 13 #[.agg #[.int .i64 t1, .string k1, .string s1], .agg #[.int .i64 t1, .string k1, .string s1]] w fun e w' => e = .returned (.int .i64 0) ∧ Below w.heap.size w w') := Lib.hid fun w => cmp_any _ _ _ _ _ _ w _ (cmpT_zero.2 rfl)
  have HX := Lib.hid hx
  have HY := Lib.hid hy
  have HZ := Lib.hid hz
  clear hx hy hz
  go_enter Try.func4, Try.ntmps4
  go_wp2_with (fail)
  have hbl : Below W.heap.size W (((W.alloc (Obj.cells #[.int .i64 t1, .string k1, .string s1] 23)).alloc (Obj.cells #[.int .i64 t1, .string k2, .string s2] 23)).alloc (Obj.cells #[.int .i64 t3, .string k3, .string s3] 23)) := bl_alloc (bl_alloc (bl_alloc (Below.refl _ _) _) _) _
  have c0 : (((W.alloc (Obj.cells #[.int .i64 t1, .string k1, .string s1] 23)).alloc (Obj.cells #[.int .i64 t1, .string k2, .string s2] 23)).alloc (Obj.cells #[.int .i64 t3, .string k3, .string s3] 23)).cell? ⟨W.heap.size, 0, none⟩ = some (.int .i64 t1) := by go_keep
  have c1 : (((W.alloc (Obj.cells #[.int .i64 t1, .string k1, .string s1] 23)).alloc (Obj.cells #[.int .i64 t1, .string k2, .string s2] 23)).alloc (Obj.cells #[.int .i64 t3, .string k3, .string s3] 23)).cell? ⟨W.heap.size, 1, none⟩ = some (.string k1) := by go_keep
  have c2 : (((W.alloc (Obj.cells #[.int .i64 t1, .string k1, .string s1] 23)).alloc (Obj.cells #[.int .i64 t1, .string k2, .string s2] 23)).alloc (Obj.cells #[.int .i64 t3, .string k3, .string s3] 23)).cell? ⟨W.heap.size, 2, none⟩ = some (.string s1) := by go_keep
  have d0 : (((W.alloc (Obj.cells #[.int .i64 t1, .string k1, .string s1] 23)).alloc (Obj.cells #[.int .i64 t1, .string k2, .string s2] 23)).alloc (Obj.cells #[.int .i64 t3, .string k3, .string s3] 23)).cell? ⟨W.heap.size + 1, 0, none⟩ = some (.int .i64 t1) := by go_keep
  have d1 : (((W.alloc (Obj.cells #[.int .i64 t1, .string k1, .string s1] 23)).alloc (Obj.cells #[.int .i64 t1, .string k2, .string s2] 23)).alloc (Obj.cells #[.int .i64 t3, .string k3, .string s3] 23)).cell? ⟨W.heap.size + 1, 1, none⟩ = some (.string k2) := by go_keep
  have d2 : (((W.alloc (Obj.cells #[.int .i64 t1, .string k1, .string s1] 23)).alloc (Obj.cells #[.int .i64 t1, .string k2, .string s2] 23)).alloc (Obj.cells #[.int .i64 t3, .string k3, .string s3] 23)).cell? ⟨W.heap.size + 1, 2, none⟩ = some (.string s2) := by go_keep
  have g0 : (((W.alloc (Obj.cells #[.int .i64 t1, .string k1, .string s1] 23)).alloc (Obj.cells #[.int .i64 t1, .string k2, .string s2] 23)).alloc (Obj.cells #[.int .i64 t3, .string k3, .string s3] 23)).cell? ⟨W.heap.size + 1 + 1, 0, none⟩ = some (.int .i64 t3) := tri_cell _ _ _ _ _ rfl
  have g1 : (((W.alloc (Obj.cells #[.int .i64 t1, .string k1, .string s1] 23)).alloc (Obj.cells #[.int .i64 t1, .string k2, .string s2] 23)).alloc (Obj.cells #[.int .i64 t3, .string k3, .string s3] 23)).cell? ⟨W.heap.size + 1 + 1, 1, none⟩ = some (.string k3) := tri_cell _ _ _ _ _ rfl
  have g2 : (((W.alloc (Obj.cells #[.int .i64 t1, .string k1, .string s1] 23)).alloc (Obj.cells #[.int .i64 t1, .string k2, .string s2] 23)).alloc (Obj.cells #[.int .i64 t3, .string k3, .string s3] 23)).cell? ⟨W.heap.size + 1 + 1, 2, none⟩ = some (.string s3) := tri_cell _ _ _ _ _ rfl
  have l0 : W.heap.size + 1 + 1 < (((W.alloc (Obj.cells #[.int .i64 t1, .string k1, .string s1] 23)).alloc (Obj.cells #[.int .i64 t1, .string k2, .string s2] 23)).alloc (Obj.cells #[.int .i64 t3, .string k3, .string s3] 23)).heap.size := by simp
  generalize (((W.alloc (Obj.cells #[.int .i64 t1, .string k1, .string s1] 23)).alloc (Obj.cells #[.int .i64 t1, .string k2, .string s2] 23)).alloc (Obj.cells #[.int .i64 t3, .string k3, .string s3] 23)) = w1 at *
  have e0 := ext_cell c0
  have e1 := ext_cell c1
  have e2 := ext_cell c2
  have f0 := ext_cell d0
  have f1 := ext_cell d1
  have f2 := ext_cell d2
  have q0 := ext_cell g0
  have q1 := ext_cell g1
  have q2 := ext_cell g2
  refine wp_region_ext (by kernel_rfl) (by kernel_rfl) ?_
  repeat (go_big_quiet_step ((go_at_call 13; exact ext_calls (H13.out _ _ _ _ _ _ _))))
  refine wpQuiet_nil ?_
  rintro w2 ⟨⟨_, hb2⟩, rfl⟩
  simp only [HX.out, HY.out, HZ.out]
  have hs2 := hb2.size
  have c0 : w2.cell? ⟨W.heap.size, 0, none⟩ = some (.int .i64 t1) := (hb2.cell (p := ⟨W.heap.size, 0, none⟩) (show W.heap.size < w1.heap.size by omega)).trans c0
  have c1 : w2.cell? ⟨W.heap.size, 1, none⟩ = some (.string k1) := (hb2.cell (p := ⟨W.heap.size, 1, none⟩) (show W.heap.size < w1.heap.size by omega)).trans c1
  have c2 : w2.cell? ⟨W.heap.size, 2, none⟩ = some (.string s1) := (hb2.cell (p := ⟨W.heap.size, 2, none⟩) (show W.heap.size < w1.heap.size by omega)).trans c2
  have d0 : w2.cell? ⟨W.heap.size + 1, 0, none⟩ = some (.int .i64 t1) := (hb2.cell (p := ⟨W.heap.size + 1, 0, none⟩) (show W.heap.size + 1 < w1.heap.size by omega)).trans d0
  have d1 : w2.cell? ⟨W.heap.size + 1, 1, none⟩ = some (.string k2) := (hb2.cell (p := ⟨W.heap.size + 1, 1, none⟩) (show W.heap.size + 1 < w1.heap.size by omega)).trans d1
  have d2 : w2.cell? ⟨W.heap.size + 1, 2, none⟩ = some (.string s2) := (hb2.cell (p := ⟨W.heap.size + 1, 2, none⟩) (show W.heap.size + 1 < w1.heap.size by omega)).trans d2
  have l1 : W.heap.size < w2.heap.size := by omega
  have l2 : W.heap.size + 1 < w2.heap.size := by omega
  clear e0 e1 e2 f0 f1 f2 q0 q1 q2 g0 g1 g2
  go_wp2_with (fail)
  refine (H13b.out _).mono ?_
  rintro e w3 ⟨rfl, hb3⟩
  have hs3 := hb3.size
  have c0 : w3.cell? ⟨W.heap.size, 0, none⟩ = some (.int .i64 t1) := (hb3.cell (p := ⟨W.heap.size, 0, none⟩) l1).trans c0
  have c1 : w3.cell? ⟨W.heap.size, 1, none⟩ = some (.string k1) := (hb3.cell (p := ⟨W.heap.size, 1, none⟩) l1).trans c1
  have c2 : w3.cell? ⟨W.heap.size, 2, none⟩ = some (.string s1) := (hb3.cell (p := ⟨W.heap.size, 2, none⟩) l1).trans c2
  have d0 : w3.cell? ⟨W.heap.size + 1, 0, none⟩ = some (.int .i64 t1) := (hb3.cell (p := ⟨W.heap.size + 1, 0, none⟩) l2).trans d0
  have d1 : w3.cell? ⟨W.heap.size + 1, 1, none⟩ = some (.string k2) := (hb3.cell (p := ⟨W.heap.size + 1, 1, none⟩) l2).trans d1
  have d2 : w3.cell? ⟨W.heap.size + 1, 2, none⟩ = some (.string s2) := (hb3.cell (p := ⟨W.heap.size + 1, 2, none⟩) l2).trans d2
  have l3 : W.heap.size < w3.heap.size := by omega
  have l4 : W.heap.size + 1 < w3.heap.size := by omega
  go_wp2_with (fail)
  refine (H13c.out _).mono ?_
  rintro e w4 ⟨rfl, hb4⟩
  go_wp2_with (fail)
  refine (awake_any _).mono ?_
  rintro e w5 ⟨rfl, hb5⟩
  go_wp2_with (fail)
  go_ret
  exact ⟨rfl, bl_then (bl_then (bl_then (bl_then hbl hb2) hb3) hb4) hb5⟩
set_option maxRecDepth 100000 in
set_option maxHeartbeats 2000000 in
theorem order_mpzs (t1 : Int) (k1 s1 : ByteArray) (s2 : ByteArray) (t3 : Int) (k3 s3 : ByteArray) (W : World) (hne : (s1.toList == s2.toList) = false) (hx : cmpT ⟨t1, k1, s1⟩ ⟨t1, k1, s2⟩ = (-1)) (hy : cmpT ⟨t1, k1, s2⟩ ⟨t3, k3, s3⟩ = (1)) (hz : cmpT ⟨t1, k1, s1⟩ ⟨t3, k3, s3⟩ = (0)) :
    Calls Try.prog 4 #[.agg #[.int .i64 t1, .string k1, .string s1], .agg #[.int .i64 t1, .string k1, .string s2], .agg #[.int .i64 t3, .string k3, .string s3]] W fun e w' => e = .returned (.bool true) ∧ Below W.heap.size W w' := by
  have H13 : Hid (∀ (t1 : Int) (k1 s1 : ByteArray) (t2 : Int) (k2 s2 : ByteArray) w, Calls Try.prog 13 #[.agg #[.int .i64 t1, .string k1, .string s1], .agg #[.int .i64 t2, .string k2, .string s2]] w fun e w' => e = .returned (.int .i64 (cmpT ⟨t1, k1, s1⟩ ⟨t2, k2, s2⟩)) ∧ Below w.heap.size w w') := Lib.hid fun t1 k1 s1 t2 k2 s2 w => cmp_any _ _ _ _ _ _ w _ rfl
  have H13b : Hid (∀ w, Calls Try.prog 13 #[.agg #[.int .i64 t1, .string k1, .string s2], .agg #[.int .i64 t1, .string k1, .string s1]] w fun e w' => e = .returned (.int .i64 (1)) ∧ Below w.heap.size w w') := Lib.hid fun w => cmp_any _ _ _ _ _ _ w _ (by have := cmpT_neg ⟨t1, k1, s1⟩ ⟨t1, k1, s2⟩; rw [hx] at this; omega)
  have H13c : Hid (∀ w, Calls Try.prog 13 #[.agg #[.int .i64 t1, .string k1, .string s1], .agg #[.int .i64 t1, .string k1, .string s1]] w fun e w' => e = .returned (.int .i64 0) ∧ Below w.heap.size w w') := Lib.hid fun w => cmp_any _ _ _ _ _ _ w _ (cmpT_zero.2 rfl)
  have HX := Lib.hid hx
  have HY := Lib.hid hy
  have HZ := Lib.hid hz
  clear hx hy hz
  go_enter Try.func4, Try.ntmps4
  go_wp2_with (fail)
  have hbl : Below W.heap.size W (((W.alloc (Obj.cells #[.int .i64 t1, .string k1, .string s1] 23)).alloc (Obj.cells #[.int .i64 t1, .string k1, .string s2] 23)).alloc (Obj.cells #[.int .i64 t3, .string k3, .string s3] 23)) := bl_alloc (bl_alloc (bl_alloc (Below.refl _ _) _) _) _
  have c0 : (((W.alloc (Obj.cells #[.int .i64 t1, .string k1, .string s1] 23)).alloc (Obj.cells #[.int .i64 t1, .string k1, .string s2] 23)).alloc (Obj.cells #[.int .i64 t3, .string k3, .string s3] 23)).cell? ⟨W.heap.size, 0, none⟩ = some (.int .i64 t1) := by go_keep
  have c1 : (((W.alloc (Obj.cells #[.int .i64 t1, .string k1, .string s1] 23)).alloc (Obj.cells #[.int .i64 t1, .string k1, .string s2] 23)).alloc (Obj.cells #[.int .i64 t3, .string k3, .string s3] 23)).cell? ⟨W.heap.size, 1, none⟩ = some (.string k1) := by go_keep
  have c2 : (((W.alloc (Obj.cells #[.int .i64 t1, .string k1, .string s1] 23)).alloc (Obj.cells #[.int .i64 t1, .string k1, .string s2] 23)).alloc (Obj.cells #[.int .i64 t3, .string k3, .string s3] 23)).cell? ⟨W.heap.size, 2, none⟩ = some (.string s1) := by go_keep
  have d0 : (((W.alloc (Obj.cells #[.int .i64 t1, .string k1, .string s1] 23)).alloc (Obj.cells #[.int .i64 t1, .string k1, .string s2] 23)).alloc (Obj.cells #[.int .i64 t3, .string k3, .string s3] 23)).cell? ⟨W.heap.size + 1, 0, none⟩ = some (.int .i64 t1) := by go_keep
  have d1 : (((W.alloc (Obj.cells #[.int .i64 t1, .string k1, .string s1] 23)).alloc (Obj.cells #[.int .i64 t1, .string k1, .string s2] 23)).alloc (Obj.cells #[.int .i64 t3, .string k3, .string s3] 23)).cell? ⟨W.heap.size + 1, 1, none⟩ = some (.string k1) := by go_keep
  have d2 : (((W.alloc (Obj.cells #[.int .i64 t1, .string k1, .string s1] 23)).alloc (Obj.cells #[.int .i64 t1, .string k1, .string s2] 23)).alloc (Obj.cells #[.int .i64 t3, .string k3, .string s3] 23)).cell? ⟨W.heap.size + 1, 2, none⟩ = some (.string s2) := by go_keep
  have g0 : (((W.alloc (Obj.cells #[.int .i64 t1, .string k1, .string s1] 23)).alloc (Obj.cells #[.int .i64 t1, .string k1, .string s2] 23)).alloc (Obj.cells #[.int .i64 t3, .string k3, .string s3] 23)).cell? ⟨W.heap.size + 1 + 1, 0, none⟩ = some (.int .i64 t3) := tri_cell _ _ _ _ _ rfl
  have g1 : (((W.alloc (Obj.cells #[.int .i64 t1, .string k1, .string s1] 23)).alloc (Obj.cells #[.int .i64 t1, .string k1, .string s2] 23)).alloc (Obj.cells #[.int .i64 t3, .string k3, .string s3] 23)).cell? ⟨W.heap.size + 1 + 1, 1, none⟩ = some (.string k3) := tri_cell _ _ _ _ _ rfl
  have g2 : (((W.alloc (Obj.cells #[.int .i64 t1, .string k1, .string s1] 23)).alloc (Obj.cells #[.int .i64 t1, .string k1, .string s2] 23)).alloc (Obj.cells #[.int .i64 t3, .string k3, .string s3] 23)).cell? ⟨W.heap.size + 1 + 1, 2, none⟩ = some (.string s3) := tri_cell _ _ _ _ _ rfl
  have l0 : W.heap.size + 1 + 1 < (((W.alloc (Obj.cells #[.int .i64 t1, .string k1, .string s1] 23)).alloc (Obj.cells #[.int .i64 t1, .string k1, .string s2] 23)).alloc (Obj.cells #[.int .i64 t3, .string k3, .string s3] 23)).heap.size := by simp
  generalize (((W.alloc (Obj.cells #[.int .i64 t1, .string k1, .string s1] 23)).alloc (Obj.cells #[.int .i64 t1, .string k1, .string s2] 23)).alloc (Obj.cells #[.int .i64 t3, .string k3, .string s3] 23)) = w1 at *
  have e0 := ext_cell c0
  have e1 := ext_cell c1
  have e2 := ext_cell c2
  have f0 := ext_cell d0
  have f1 := ext_cell d1
  have f2 := ext_cell d2
  have q0 := ext_cell g0
  have q1 := ext_cell g1
  have q2 := ext_cell g2
  refine wp_region_ext (by kernel_rfl) (by kernel_rfl) ?_
  repeat (go_big_quiet_step ((go_at_call 13; exact ext_calls (H13.out _ _ _ _ _ _ _))))
  refine wpQuiet_nil ?_
  rintro w2 ⟨⟨_, hb2⟩, rfl⟩
  simp only [HX.out, HY.out, HZ.out]
  have hs2 := hb2.size
  have c0 : w2.cell? ⟨W.heap.size, 0, none⟩ = some (.int .i64 t1) := (hb2.cell (p := ⟨W.heap.size, 0, none⟩) (show W.heap.size < w1.heap.size by omega)).trans c0
  have c1 : w2.cell? ⟨W.heap.size, 1, none⟩ = some (.string k1) := (hb2.cell (p := ⟨W.heap.size, 1, none⟩) (show W.heap.size < w1.heap.size by omega)).trans c1
  have c2 : w2.cell? ⟨W.heap.size, 2, none⟩ = some (.string s1) := (hb2.cell (p := ⟨W.heap.size, 2, none⟩) (show W.heap.size < w1.heap.size by omega)).trans c2
  have d0 : w2.cell? ⟨W.heap.size + 1, 0, none⟩ = some (.int .i64 t1) := (hb2.cell (p := ⟨W.heap.size + 1, 0, none⟩) (show W.heap.size + 1 < w1.heap.size by omega)).trans d0
  have d1 : w2.cell? ⟨W.heap.size + 1, 1, none⟩ = some (.string k1) := (hb2.cell (p := ⟨W.heap.size + 1, 1, none⟩) (show W.heap.size + 1 < w1.heap.size by omega)).trans d1
  have d2 : w2.cell? ⟨W.heap.size + 1, 2, none⟩ = some (.string s2) := (hb2.cell (p := ⟨W.heap.size + 1, 2, none⟩) (show W.heap.size + 1 < w1.heap.size by omega)).trans d2
  have l1 : W.heap.size < w2.heap.size := by omega
  have l2 : W.heap.size + 1 < w2.heap.size := by omega
  clear e0 e1 e2 f0 f1 f2 q0 q1 q2 g0 g1 g2
  go_wp2_with (fail)
  refine (H13b.out _).mono ?_
  rintro e w3 ⟨rfl, hb3⟩
  have hs3 := hb3.size
  have c0 : w3.cell? ⟨W.heap.size, 0, none⟩ = some (.int .i64 t1) := (hb3.cell (p := ⟨W.heap.size, 0, none⟩) l1).trans c0
  have c1 : w3.cell? ⟨W.heap.size, 1, none⟩ = some (.string k1) := (hb3.cell (p := ⟨W.heap.size, 1, none⟩) l1).trans c1
  have c2 : w3.cell? ⟨W.heap.size, 2, none⟩ = some (.string s1) := (hb3.cell (p := ⟨W.heap.size, 2, none⟩) l1).trans c2
  have d0 : w3.cell? ⟨W.heap.size + 1, 0, none⟩ = some (.int .i64 t1) := (hb3.cell (p := ⟨W.heap.size + 1, 0, none⟩) l2).trans d0
  have d1 : w3.cell? ⟨W.heap.size + 1, 1, none⟩ = some (.string k1) := (hb3.cell (p := ⟨W.heap.size + 1, 1, none⟩) l2).trans d1
  have d2 : w3.cell? ⟨W.heap.size + 1, 2, none⟩ = some (.string s2) := (hb3.cell (p := ⟨W.heap.size + 1, 2, none⟩) l2).trans d2
  have l3 : W.heap.size < w3.heap.size := by omega
  have l4 : W.heap.size + 1 < w3.heap.size := by omega
  go_wp2_with (fail)
  refine (H13c.out _).mono ?_
  rintro e w4 ⟨rfl, hb4⟩
  go_wp2_with (fail)
  refine (awake_any _).mono ?_
  rintro e w5 ⟨rfl, hb5⟩
  go_wp2_with (fail)
  go_ret
  exact ⟨rfl, bl_then (bl_then (bl_then (bl_then hbl hb2) hb3) hb4) hb5⟩
set_option maxRecDepth 100000 in
set_option maxHeartbeats 2000000 in
theorem order_mppt (t1 : Int) (k1 s1 : ByteArray) (t2 : Int) (k2 : ByteArray) (s2 : ByteArray) (t3 : Int) (k3 s3 : ByteArray) (W : World) (hne : ¬ t1 = t2) (hx : cmpT ⟨t1, k1, s1⟩ ⟨t2, k2, s2⟩ = (-1)) (hy : cmpT ⟨t2, k2, s2⟩ ⟨t3, k3, s3⟩ = (1)) (hz : cmpT ⟨t1, k1, s1⟩ ⟨t3, k3, s3⟩ = (1)) :
    Calls Try.prog 4 #[.agg #[.int .i64 t1, .string k1, .string s1], .agg #[.int .i64 t2, .string k2, .string s2], .agg #[.int .i64 t3, .string k3, .string s3]] W fun e w' => e = .returned (.bool true) ∧ Below W.heap.size W w' := by
  have H13 : Hid (∀ (t1 : Int) (k1 s1 : ByteArray) (t2 : Int) (k2 s2 : ByteArray) w, Calls Try.prog 13 #[.agg #[.int .i64 t1, .string k1, .string s1], .agg #[.int .i64 t2, .string k2, .string s2]] w fun e w' => e = .returned (.int .i64 (cmpT ⟨t1, k1, s1⟩ ⟨t2, k2, s2⟩)) ∧ Below w.heap.size w w') := Lib.hid fun t1 k1 s1 t2 k2 s2 w => cmp_any _ _ _ _ _ _ w _ rfl
  have H13b : Hid (∀ w, Calls Try.prog 13 #[.agg #[.int .i64 t2, .string k2, .string s2], .agg #[.int .i64 t1, .string k1, .string s1]] w fun e w' => e = .returned (.int .i64 (1)) ∧ Below w.heap.size w w') := Lib.hid fun w => cmp_any _ _ _ _ _ _ w _ (by have := cmpT_neg ⟨t1, k1, s1⟩ ⟨t2, k2, s2⟩; rw [hx] at this; omega)
  have H13c : Hid (∀ w, Calls Try.prog 13 #[.agg #[.int .i64 t1, .string k1, .string s1], .agg #[.int .i64 t1, .string k1, .string s1]] w fun e w' => e = .returned (.int .i64 0) ∧ Below w.heap.size w w') := Lib.hid fun w => cmp_any _ _ _ _ _ _ w _ (cmpT_zero.2 rfl)
  have HX := Lib.hid hx
  have HY := Lib.hid hy
  have HZ := Lib.hid hz
  clear hx hy hz
  go_enter Try.func4, Try.ntmps4
  go_wp2_with (fail)
  have hbl : Below W.heap.size W (((W.alloc (Obj.cells #[.int .i64 t1, .string k1, .string s1] 23)).alloc (Obj.cells #[.int .i64 t2, .string k2, .string s2] 23)).alloc (Obj.cells #[.int .i64 t3, .string k3, .string s3] 23)) := bl_alloc (bl_alloc (bl_alloc (Below.refl _ _) _) _) _
  have c0 : (((W.alloc (Obj.cells #[.int .i64 t1, .string k1, .string s1] 23)).alloc (Obj.cells #[.int .i64 t2, .string k2, .string s2] 23)).alloc (Obj.cells #[.int .i64 t3, .string k3, .string s3] 23)).cell? ⟨W.heap.size, 0, none⟩ = some (.int .i64 t1) := by go_keep
  have c1 : (((W.alloc (Obj.cells #[.int .i64 t1, .string k1, .string s1] 23)).alloc (Obj.cells #[.int .i64 t2, .string k2, .string s2] 23)).alloc (Obj.cells #[.int .i64 t3, .string k3, .string s3] 23)).cell? ⟨W.heap.size, 1, none⟩ = some (.string k1) := by go_keep
  have c2 : (((W.alloc (Obj.cells #[.int .i64 t1, .string k1, .string s1] 23)).alloc (Obj.cells #[.int .i64 t2, .string k2, .string s2] 23)).alloc (Obj.cells #[.int .i64 t3, .string k3, .string s3] 23)).cell? ⟨W.heap.size, 2, none⟩ = some (.string s1) := by go_keep
  have d0 : (((W.alloc (Obj.cells #[.int .i64 t1, .string k1, .string s1] 23)).alloc (Obj.cells #[.int .i64 t2, .string k2, .string s2] 23)).alloc (Obj.cells #[.int .i64 t3, .string k3, .string s3] 23)).cell? ⟨W.heap.size + 1, 0, none⟩ = some (.int .i64 t2) := by go_keep
  have d1 : (((W.alloc (Obj.cells #[.int .i64 t1, .string k1, .string s1] 23)).alloc (Obj.cells #[.int .i64 t2, .string k2, .string s2] 23)).alloc (Obj.cells #[.int .i64 t3, .string k3, .string s3] 23)).cell? ⟨W.heap.size + 1, 1, none⟩ = some (.string k2) := by go_keep
  have d2 : (((W.alloc (Obj.cells #[.int .i64 t1, .string k1, .string s1] 23)).alloc (Obj.cells #[.int .i64 t2, .string k2, .string s2] 23)).alloc (Obj.cells #[.int .i64 t3, .string k3, .string s3] 23)).cell? ⟨W.heap.size + 1, 2, none⟩ = some (.string s2) := by go_keep
  have g0 : (((W.alloc (Obj.cells #[.int .i64 t1, .string k1, .string s1] 23)).alloc (Obj.cells #[.int .i64 t2, .string k2, .string s2] 23)).alloc (Obj.cells #[.int .i64 t3, .string k3, .string s3] 23)).cell? ⟨W.heap.size + 1 + 1, 0, none⟩ = some (.int .i64 t3) := tri_cell _ _ _ _ _ rfl
  have g1 : (((W.alloc (Obj.cells #[.int .i64 t1, .string k1, .string s1] 23)).alloc (Obj.cells #[.int .i64 t2, .string k2, .string s2] 23)).alloc (Obj.cells #[.int .i64 t3, .string k3, .string s3] 23)).cell? ⟨W.heap.size + 1 + 1, 1, none⟩ = some (.string k3) := tri_cell _ _ _ _ _ rfl
  have g2 : (((W.alloc (Obj.cells #[.int .i64 t1, .string k1, .string s1] 23)).alloc (Obj.cells #[.int .i64 t2, .string k2, .string s2] 23)).alloc (Obj.cells #[.int .i64 t3, .string k3, .string s3] 23)).cell? ⟨W.heap.size + 1 + 1, 2, none⟩ = some (.string s3) := tri_cell _ _ _ _ _ rfl
  have l0 : W.heap.size + 1 + 1 < (((W.alloc (Obj.cells #[.int .i64 t1, .string k1, .string s1] 23)).alloc (Obj.cells #[.int .i64 t2, .string k2, .string s2] 23)).alloc (Obj.cells #[.int .i64 t3, .string k3, .string s3] 23)).heap.size := by simp
  generalize (((W.alloc (Obj.cells #[.int .i64 t1, .string k1, .string s1] 23)).alloc (Obj.cells #[.int .i64 t2, .string k2, .string s2] 23)).alloc (Obj.cells #[.int .i64 t3, .string k3, .string s3] 23)) = w1 at *
  have e0 := ext_cell c0
  have e1 := ext_cell c1
  have e2 := ext_cell c2
  have f0 := ext_cell d0
  have f1 := ext_cell d1
  have f2 := ext_cell d2
  have q0 := ext_cell g0
  have q1 := ext_cell g1
  have q2 := ext_cell g2
  refine wp_region_ext (by kernel_rfl) (by kernel_rfl) ?_
  repeat (go_big_quiet_step ((go_at_call 13; exact ext_calls (H13.out _ _ _ _ _ _ _))))
  refine wpQuiet_nil ?_
  rintro w2 ⟨⟨_, hb2⟩, rfl⟩
  simp only [HX.out, HY.out, HZ.out]
  have hs2 := hb2.size
  have c0 : w2.cell? ⟨W.heap.size, 0, none⟩ = some (.int .i64 t1) := (hb2.cell (p := ⟨W.heap.size, 0, none⟩) (show W.heap.size < w1.heap.size by omega)).trans c0
  have c1 : w2.cell? ⟨W.heap.size, 1, none⟩ = some (.string k1) := (hb2.cell (p := ⟨W.heap.size, 1, none⟩) (show W.heap.size < w1.heap.size by omega)).trans c1
  have c2 : w2.cell? ⟨W.heap.size, 2, none⟩ = some (.string s1) := (hb2.cell (p := ⟨W.heap.size, 2, none⟩) (show W.heap.size < w1.heap.size by omega)).trans c2
  have d0 : w2.cell? ⟨W.heap.size + 1, 0, none⟩ = some (.int .i64 t2) := (hb2.cell (p := ⟨W.heap.size + 1, 0, none⟩) (show W.heap.size + 1 < w1.heap.size by omega)).trans d0
  have d1 : w2.cell? ⟨W.heap.size + 1, 1, none⟩ = some (.string k2) := (hb2.cell (p := ⟨W.heap.size + 1, 1, none⟩) (show W.heap.size + 1 < w1.heap.size by omega)).trans d1
  have d2 : w2.cell? ⟨W.heap.size + 1, 2, none⟩ = some (.string s2) := (hb2.cell (p := ⟨W.heap.size + 1, 2, none⟩) (show W.heap.size + 1 < w1.heap.size by omega)).trans d2
  have l1 : W.heap.size < w2.heap.size := by omega
  have l2 : W.heap.size + 1 < w2.heap.size := by omega
  clear e0 e1 e2 f0 f1 f2 q0 q1 q2 g0 g1 g2
  go_wp2_with (fail)
  refine (H13b.out _).mono ?_
  rintro e w3 ⟨rfl, hb3⟩
  have hs3 := hb3.size
  have c0 : w3.cell? ⟨W.heap.size, 0, none⟩ = some (.int .i64 t1) := (hb3.cell (p := ⟨W.heap.size, 0, none⟩) l1).trans c0
  have c1 : w3.cell? ⟨W.heap.size, 1, none⟩ = some (.string k1) := (hb3.cell (p := ⟨W.heap.size, 1, none⟩) l1).trans c1
  have c2 : w3.cell? ⟨W.heap.size, 2, none⟩ = some (.string s1) := (hb3.cell (p := ⟨W.heap.size, 2, none⟩) l1).trans c2
  have d0 : w3.cell? ⟨W.heap.size + 1, 0, none⟩ = some (.int .i64 t2) := (hb3.cell (p := ⟨W.heap.size + 1, 0, none⟩) l2).trans d0
  have d1 : w3.cell? ⟨W.heap.size + 1, 1, none⟩ = some (.string k2) := (hb3.cell (p := ⟨W.heap.size + 1, 1, none⟩) l2).trans d1
  have d2 : w3.cell? ⟨W.heap.size + 1, 2, none⟩ = some (.string s2) := (hb3.cell (p := ⟨W.heap.size + 1, 2, none⟩) l2).trans d2
  have l3 : W.heap.size < w3.heap.size := by omega
  have l4 : W.heap.size + 1 < w3.heap.size := by omega
  go_wp2_with (fail)
  refine (H13c.out _).mono ?_
  rintro e w4 ⟨rfl, hb4⟩
  go_wp2_with (fail)
  refine (awake_any _).mono ?_
  rintro e w5 ⟨rfl, hb5⟩
  go_wp2_with (fail)
  go_ret
  exact ⟨rfl, bl_then (bl_then (bl_then (bl_then hbl hb2) hb3) hb4) hb5⟩
set_option maxRecDepth 100000 in
set_option maxHeartbeats 2000000 in
theorem order_mppk (t1 : Int) (k1 s1 : ByteArray) (k2 : ByteArray) (s2 : ByteArray) (t3 : Int) (k3 s3 : ByteArray) (W : World) (hne : (k1.toList == k2.toList) = false) (hx : cmpT ⟨t1, k1, s1⟩ ⟨t1, k2, s2⟩ = (-1)) (hy : cmpT ⟨t1, k2, s2⟩ ⟨t3, k3, s3⟩ = (1)) (hz : cmpT ⟨t1, k1, s1⟩ ⟨t3, k3, s3⟩ = (1)) :
    Calls Try.prog 4 #[.agg #[.int .i64 t1, .string k1, .string s1], .agg #[.int .i64 t1, .string k2, .string s2], .agg #[.int .i64 t3, .string k3, .string s3]] W fun e w' => e = .returned (.bool true) ∧ Below W.heap.size W w' := by
  have H13 : Hid (∀ (t1 : Int) (k1 s1 : ByteArray) (t2 : Int) (k2 s2 : ByteArray) w, Calls Try.prog 13 #[.agg #[.int .i64 t1, .string k1, .string s1], .agg #[.int .i64 t2, .string k2, .string s2]] w fun e w' => e = .returned (.int .i64 (cmpT ⟨t1, k1, s1⟩ ⟨t2, k2, s2⟩)) ∧ Below w.heap.size w w') := Lib.hid fun t1 k1 s1 t2 k2 s2 w => cmp_any _ _ _ _ _ _ w _ rfl
  have H13b : Hid (∀ w, Calls Try.prog 13 #[.agg #[.int .i64 t1, .string k2, .string s2], .agg #[.int .i64 t1, .string k1, .string s1]] w fun e w' => e = .returned (.int .i64 (1)) ∧ Below w.heap.size w w') := Lib.hid fun w => cmp_any _ _ _ _ _ _ w _ (by have := cmpT_neg ⟨t1, k1, s1⟩ ⟨t1, k2, s2⟩; rw [hx] at this; omega)
  have H13c : Hid (∀ w, Calls Try.prog 13 #[.agg #[.int .i64 t1, .string k1, .string s1], .agg #[.int .i64 t1, .string k1, .string s1]] w fun e w' => e = .returned (.int .i64 0) ∧ Below w.heap.size w w') := Lib.hid fun w => cmp_any _ _ _ _ _ _ w _ (cmpT_zero.2 rfl)
  have HX := Lib.hid hx
  have HY := Lib.hid hy
  have HZ := Lib.hid hz
  clear hx hy hz
  go_enter Try.func4, Try.ntmps4
  go_wp2_with (fail)
  have hbl : Below W.heap.size W (((W.alloc (Obj.cells #[.int .i64 t1, .string k1, .string s1] 23)).alloc (Obj.cells #[.int .i64 t1, .string k2, .string s2] 23)).alloc (Obj.cells #[.int .i64 t3, .string k3, .string s3] 23)) := bl_alloc (bl_alloc (bl_alloc (Below.refl _ _) _) _) _
  have c0 : (((W.alloc (Obj.cells #[.int .i64 t1, .string k1, .string s1] 23)).alloc (Obj.cells #[.int .i64 t1, .string k2, .string s2] 23)).alloc (Obj.cells #[.int .i64 t3, .string k3, .string s3] 23)).cell? ⟨W.heap.size, 0, none⟩ = some (.int .i64 t1) := by go_keep
  have c1 : (((W.alloc (Obj.cells #[.int .i64 t1, .string k1, .string s1] 23)).alloc (Obj.cells #[.int .i64 t1, .string k2, .string s2] 23)).alloc (Obj.cells #[.int .i64 t3, .string k3, .string s3] 23)).cell? ⟨W.heap.size, 1, none⟩ = some (.string k1) := by go_keep
  have c2 : (((W.alloc (Obj.cells #[.int .i64 t1, .string k1, .string s1] 23)).alloc (Obj.cells #[.int .i64 t1, .string k2, .string s2] 23)).alloc (Obj.cells #[.int .i64 t3, .string k3, .string s3] 23)).cell? ⟨W.heap.size, 2, none⟩ = some (.string s1) := by go_keep
  have d0 : (((W.alloc (Obj.cells #[.int .i64 t1, .string k1, .string s1] 23)).alloc (Obj.cells #[.int .i64 t1, .string k2, .string s2] 23)).alloc (Obj.cells #[.int .i64 t3, .string k3, .string s3] 23)).cell? ⟨W.heap.size + 1, 0, none⟩ = some (.int .i64 t1) := by go_keep
  have d1 : (((W.alloc (Obj.cells #[.int .i64 t1, .string k1, .string s1] 23)).alloc (Obj.cells #[.int .i64 t1, .string k2, .string s2] 23)).alloc (Obj.cells #[.int .i64 t3, .string k3, .string s3] 23)).cell? ⟨W.heap.size + 1, 1, none⟩ = some (.string k2) := by go_keep
  have d2 : (((W.alloc (Obj.cells #[.int .i64 t1, .string k1, .string s1] 23)).alloc (Obj.cells #[.int .i64 t1, .string k2, .string s2] 23)).alloc (Obj.cells #[.int .i64 t3, .string k3, .string s3] 23)).cell? ⟨W.heap.size + 1, 2, none⟩ = some (.string s2) := by go_keep
  have g0 : (((W.alloc (Obj.cells #[.int .i64 t1, .string k1, .string s1] 23)).alloc (Obj.cells #[.int .i64 t1, .string k2, .string s2] 23)).alloc (Obj.cells #[.int .i64 t3, .string k3, .string s3] 23)).cell? ⟨W.heap.size + 1 + 1, 0, none⟩ = some (.int .i64 t3) := tri_cell _ _ _ _ _ rfl
  have g1 : (((W.alloc (Obj.cells #[.int .i64 t1, .string k1, .string s1] 23)).alloc (Obj.cells #[.int .i64 t1, .string k2, .string s2] 23)).alloc (Obj.cells #[.int .i64 t3, .string k3, .string s3] 23)).cell? ⟨W.heap.size + 1 + 1, 1, none⟩ = some (.string k3) := tri_cell _ _ _ _ _ rfl
  have g2 : (((W.alloc (Obj.cells #[.int .i64 t1, .string k1, .string s1] 23)).alloc (Obj.cells #[.int .i64 t1, .string k2, .string s2] 23)).alloc (Obj.cells #[.int .i64 t3, .string k3, .string s3] 23)).cell? ⟨W.heap.size + 1 + 1, 2, none⟩ = some (.string s3) := tri_cell _ _ _ _ _ rfl
  have l0 : W.heap.size + 1 + 1 < (((W.alloc (Obj.cells #[.int .i64 t1, .string k1, .string s1] 23)).alloc (Obj.cells #[.int .i64 t1, .string k2, .string s2] 23)).alloc (Obj.cells #[.int .i64 t3, .string k3, .string s3] 23)).heap.size := by simp
  generalize (((W.alloc (Obj.cells #[.int .i64 t1, .string k1, .string s1] 23)).alloc (Obj.cells #[.int .i64 t1, .string k2, .string s2] 23)).alloc (Obj.cells #[.int .i64 t3, .string k3, .string s3] 23)) = w1 at *
  have e0 := ext_cell c0
  have e1 := ext_cell c1
  have e2 := ext_cell c2
  have f0 := ext_cell d0
  have f1 := ext_cell d1
  have f2 := ext_cell d2
  have q0 := ext_cell g0
  have q1 := ext_cell g1
  have q2 := ext_cell g2
  refine wp_region_ext (by kernel_rfl) (by kernel_rfl) ?_
  repeat (go_big_quiet_step ((go_at_call 13; exact ext_calls (H13.out _ _ _ _ _ _ _))))
  refine wpQuiet_nil ?_
  rintro w2 ⟨⟨_, hb2⟩, rfl⟩
  simp only [HX.out, HY.out, HZ.out]
  have hs2 := hb2.size
  have c0 : w2.cell? ⟨W.heap.size, 0, none⟩ = some (.int .i64 t1) := (hb2.cell (p := ⟨W.heap.size, 0, none⟩) (show W.heap.size < w1.heap.size by omega)).trans c0
  have c1 : w2.cell? ⟨W.heap.size, 1, none⟩ = some (.string k1) := (hb2.cell (p := ⟨W.heap.size, 1, none⟩) (show W.heap.size < w1.heap.size by omega)).trans c1
  have c2 : w2.cell? ⟨W.heap.size, 2, none⟩ = some (.string s1) := (hb2.cell (p := ⟨W.heap.size, 2, none⟩) (show W.heap.size < w1.heap.size by omega)).trans c2
  have d0 : w2.cell? ⟨W.heap.size + 1, 0, none⟩ = some (.int .i64 t1) := (hb2.cell (p := ⟨W.heap.size + 1, 0, none⟩) (show W.heap.size + 1 < w1.heap.size by omega)).trans d0
  have d1 : w2.cell? ⟨W.heap.size + 1, 1, none⟩ = some (.string k2) := (hb2.cell (p := ⟨W.heap.size + 1, 1, none⟩) (show W.heap.size + 1 < w1.heap.size by omega)).trans d1
  have d2 : w2.cell? ⟨W.heap.size + 1, 2, none⟩ = some (.string s2) := (hb2.cell (p := ⟨W.heap.size + 1, 2, none⟩) (show W.heap.size + 1 < w1.heap.size by omega)).trans d2
  have l1 : W.heap.size < w2.heap.size := by omega
  have l2 : W.heap.size + 1 < w2.heap.size := by omega
  clear e0 e1 e2 f0 f1 f2 q0 q1 q2 g0 g1 g2
  go_wp2_with (fail)
  refine (H13b.out _).mono ?_
  rintro e w3 ⟨rfl, hb3⟩
  have hs3 := hb3.size
  have c0 : w3.cell? ⟨W.heap.size, 0, none⟩ = some (.int .i64 t1) := (hb3.cell (p := ⟨W.heap.size, 0, none⟩) l1).trans c0
  have c1 : w3.cell? ⟨W.heap.size, 1, none⟩ = some (.string k1) := (hb3.cell (p := ⟨W.heap.size, 1, none⟩) l1).trans c1
  have c2 : w3.cell? ⟨W.heap.size, 2, none⟩ = some (.string s1) := (hb3.cell (p := ⟨W.heap.size, 2, none⟩) l1).trans c2
  have d0 : w3.cell? ⟨W.heap.size + 1, 0, none⟩ = some (.int .i64 t1) := (hb3.cell (p := ⟨W.heap.size + 1, 0, none⟩) l2).trans d0
  have d1 : w3.cell? ⟨W.heap.size + 1, 1, none⟩ = some (.string k2) := (hb3.cell (p := ⟨W.heap.size + 1, 1, none⟩) l2).trans d1
  have d2 : w3.cell? ⟨W.heap.size + 1, 2, none⟩ = some (.string s2) := (hb3.cell (p := ⟨W.heap.size + 1, 2, none⟩) l2).trans d2
  have l3 : W.heap.size < w3.heap.size := by omega
  have l4 : W.heap.size + 1 < w3.heap.size := by omega
  go_wp2_with (fail)
  refine (H13c.out _).mono ?_
  rintro e w4 ⟨rfl, hb4⟩
  go_wp2_with (fail)
  refine (awake_any _).mono ?_
  rintro e w5 ⟨rfl, hb5⟩
  go_wp2_with (fail)
  go_ret
  exact ⟨rfl, bl_then (bl_then (bl_then (bl_then hbl hb2) hb3) hb4) hb5⟩
set_option maxRecDepth 100000 in
set_option maxHeartbeats 2000000 in
theorem order_mpps (t1 : Int) (k1 s1 : ByteArray) (s2 : ByteArray) (t3 : Int) (k3 s3 : ByteArray) (W : World) (hne : (s1.toList == s2.toList) = false) (hx : cmpT ⟨t1, k1, s1⟩ ⟨t1, k1, s2⟩ = (-1)) (hy : cmpT ⟨t1, k1, s2⟩ ⟨t3, k3, s3⟩ = (1)) (hz : cmpT ⟨t1, k1, s1⟩ ⟨t3, k3, s3⟩ = (1)) :
    Calls Try.prog 4 #[.agg #[.int .i64 t1, .string k1, .string s1], .agg #[.int .i64 t1, .string k1, .string s2], .agg #[.int .i64 t3, .string k3, .string s3]] W fun e w' => e = .returned (.bool true) ∧ Below W.heap.size W w' := by
  have H13 : Hid (∀ (t1 : Int) (k1 s1 : ByteArray) (t2 : Int) (k2 s2 : ByteArray) w, Calls Try.prog 13 #[.agg #[.int .i64 t1, .string k1, .string s1], .agg #[.int .i64 t2, .string k2, .string s2]] w fun e w' => e = .returned (.int .i64 (cmpT ⟨t1, k1, s1⟩ ⟨t2, k2, s2⟩)) ∧ Below w.heap.size w w') := Lib.hid fun t1 k1 s1 t2 k2 s2 w => cmp_any _ _ _ _ _ _ w _ rfl
  have H13b : Hid (∀ w, Calls Try.prog 13 #[.agg #[.int .i64 t1, .string k1, .string s2], .agg #[.int .i64 t1, .string k1, .string s1]] w fun e w' => e = .returned (.int .i64 (1)) ∧ Below w.heap.size w w') := Lib.hid fun w => cmp_any _ _ _ _ _ _ w _ (by have := cmpT_neg ⟨t1, k1, s1⟩ ⟨t1, k1, s2⟩; rw [hx] at this; omega)
  have H13c : Hid (∀ w, Calls Try.prog 13 #[.agg #[.int .i64 t1, .string k1, .string s1], .agg #[.int .i64 t1, .string k1, .string s1]] w fun e w' => e = .returned (.int .i64 0) ∧ Below w.heap.size w w') := Lib.hid fun w => cmp_any _ _ _ _ _ _ w _ (cmpT_zero.2 rfl)
  have HX := Lib.hid hx
  have HY := Lib.hid hy
  have HZ := Lib.hid hz
  clear hx hy hz
  go_enter Try.func4, Try.ntmps4
  go_wp2_with (fail)
  have hbl : Below W.heap.size W (((W.alloc (Obj.cells #[.int .i64 t1, .string k1, .string s1] 23)).alloc (Obj.cells #[.int .i64 t1, .string k1, .string s2] 23)).alloc (Obj.cells #[.int .i64 t3, .string k3, .string s3] 23)) := bl_alloc (bl_alloc (bl_alloc (Below.refl _ _) _) _) _
  have c0 : (((W.alloc (Obj.cells #[.int .i64 t1, .string k1, .string s1] 23)).alloc (Obj.cells #[.int .i64 t1, .string k1, .string s2] 23)).alloc (Obj.cells #[.int .i64 t3, .string k3, .string s3] 23)).cell? ⟨W.heap.size, 0, none⟩ = some (.int .i64 t1) := by go_keep
  have c1 : (((W.alloc (Obj.cells #[.int .i64 t1, .string k1, .string s1] 23)).alloc (Obj.cells #[.int .i64 t1, .string k1, .string s2] 23)).alloc (Obj.cells #[.int .i64 t3, .string k3, .string s3] 23)).cell? ⟨W.heap.size, 1, none⟩ = some (.string k1) := by go_keep
  have c2 : (((W.alloc (Obj.cells #[.int .i64 t1, .string k1, .string s1] 23)).alloc (Obj.cells #[.int .i64 t1, .string k1, .string s2] 23)).alloc (Obj.cells #[.int .i64 t3, .string k3, .string s3] 23)).cell? ⟨W.heap.size, 2, none⟩ = some (.string s1) := by go_keep
  have d0 : (((W.alloc (Obj.cells #[.int .i64 t1, .string k1, .string s1] 23)).alloc (Obj.cells #[.int .i64 t1, .string k1, .string s2] 23)).alloc (Obj.cells #[.int .i64 t3, .string k3, .string s3] 23)).cell? ⟨W.heap.size + 1, 0, none⟩ = some (.int .i64 t1) := by go_keep
  have d1 : (((W.alloc (Obj.cells #[.int .i64 t1, .string k1, .string s1] 23)).alloc (Obj.cells #[.int .i64 t1, .string k1, .string s2] 23)).alloc (Obj.cells #[.int .i64 t3, .string k3, .string s3] 23)).cell? ⟨W.heap.size + 1, 1, none⟩ = some (.string k1) := by go_keep
  have d2 : (((W.alloc (Obj.cells #[.int .i64 t1, .string k1, .string s1] 23)).alloc (Obj.cells #[.int .i64 t1, .string k1, .string s2] 23)).alloc (Obj.cells #[.int .i64 t3, .string k3, .string s3] 23)).cell? ⟨W.heap.size + 1, 2, none⟩ = some (.string s2) := by go_keep
  have g0 : (((W.alloc (Obj.cells #[.int .i64 t1, .string k1, .string s1] 23)).alloc (Obj.cells #[.int .i64 t1, .string k1, .string s2] 23)).alloc (Obj.cells #[.int .i64 t3, .string k3, .string s3] 23)).cell? ⟨W.heap.size + 1 + 1, 0, none⟩ = some (.int .i64 t3) := tri_cell _ _ _ _ _ rfl
  have g1 : (((W.alloc (Obj.cells #[.int .i64 t1, .string k1, .string s1] 23)).alloc (Obj.cells #[.int .i64 t1, .string k1, .string s2] 23)).alloc (Obj.cells #[.int .i64 t3, .string k3, .string s3] 23)).cell? ⟨W.heap.size + 1 + 1, 1, none⟩ = some (.string k3) := tri_cell _ _ _ _ _ rfl
  have g2 : (((W.alloc (Obj.cells #[.int .i64 t1, .string k1, .string s1] 23)).alloc (Obj.cells #[.int .i64 t1, .string k1, .string s2] 23)).alloc (Obj.cells #[.int .i64 t3, .string k3, .string s3] 23)).cell? ⟨W.heap.size + 1 + 1, 2, none⟩ = some (.string s3) := tri_cell _ _ _ _ _ rfl
  have l0 : W.heap.size + 1 + 1 < (((W.alloc (Obj.cells #[.int .i64 t1, .string k1, .string s1] 23)).alloc (Obj.cells #[.int .i64 t1, .string k1, .string s2] 23)).alloc (Obj.cells #[.int .i64 t3, .string k3, .string s3] 23)).heap.size := by simp
  generalize (((W.alloc (Obj.cells #[.int .i64 t1, .string k1, .string s1] 23)).alloc (Obj.cells #[.int .i64 t1, .string k1, .string s2] 23)).alloc (Obj.cells #[.int .i64 t3, .string k3, .string s3] 23)) = w1 at *
  have e0 := ext_cell c0
  have e1 := ext_cell c1
  have e2 := ext_cell c2
  have f0 := ext_cell d0
  have f1 := ext_cell d1
  have f2 := ext_cell d2
  have q0 := ext_cell g0
  have q1 := ext_cell g1
  have q2 := ext_cell g2
  refine wp_region_ext (by kernel_rfl) (by kernel_rfl) ?_
  repeat (go_big_quiet_step ((go_at_call 13; exact ext_calls (H13.out _ _ _ _ _ _ _))))
  refine wpQuiet_nil ?_
  rintro w2 ⟨⟨_, hb2⟩, rfl⟩
  simp only [HX.out, HY.out, HZ.out]
  have hs2 := hb2.size
  have c0 : w2.cell? ⟨W.heap.size, 0, none⟩ = some (.int .i64 t1) := (hb2.cell (p := ⟨W.heap.size, 0, none⟩) (show W.heap.size < w1.heap.size by omega)).trans c0
  have c1 : w2.cell? ⟨W.heap.size, 1, none⟩ = some (.string k1) := (hb2.cell (p := ⟨W.heap.size, 1, none⟩) (show W.heap.size < w1.heap.size by omega)).trans c1
  have c2 : w2.cell? ⟨W.heap.size, 2, none⟩ = some (.string s1) := (hb2.cell (p := ⟨W.heap.size, 2, none⟩) (show W.heap.size < w1.heap.size by omega)).trans c2
  have d0 : w2.cell? ⟨W.heap.size + 1, 0, none⟩ = some (.int .i64 t1) := (hb2.cell (p := ⟨W.heap.size + 1, 0, none⟩) (show W.heap.size + 1 < w1.heap.size by omega)).trans d0
  have d1 : w2.cell? ⟨W.heap.size + 1, 1, none⟩ = some (.string k1) := (hb2.cell (p := ⟨W.heap.size + 1, 1, none⟩) (show W.heap.size + 1 < w1.heap.size by omega)).trans d1
  have d2 : w2.cell? ⟨W.heap.size + 1, 2, none⟩ = some (.string s2) := (hb2.cell (p := ⟨W.heap.size + 1, 2, none⟩) (show W.heap.size + 1 < w1.heap.size by omega)).trans d2
  have l1 : W.heap.size < w2.heap.size := by omega
  have l2 : W.heap.size + 1 < w2.heap.size := by omega
  clear e0 e1 e2 f0 f1 f2 q0 q1 q2 g0 g1 g2
  go_wp2_with (fail)
  refine (H13b.out _).mono ?_
  rintro e w3 ⟨rfl, hb3⟩
  have hs3 := hb3.size
  have c0 : w3.cell? ⟨W.heap.size, 0, none⟩ = some (.int .i64 t1) := (hb3.cell (p := ⟨W.heap.size, 0, none⟩) l1).trans c0
  have c1 : w3.cell? ⟨W.heap.size, 1, none⟩ = some (.string k1) := (hb3.cell (p := ⟨W.heap.size, 1, none⟩) l1).trans c1
  have c2 : w3.cell? ⟨W.heap.size, 2, none⟩ = some (.string s1) := (hb3.cell (p := ⟨W.heap.size, 2, none⟩) l1).trans c2
  have d0 : w3.cell? ⟨W.heap.size + 1, 0, none⟩ = some (.int .i64 t1) := (hb3.cell (p := ⟨W.heap.size + 1, 0, none⟩) l2).trans d0
  have d1 : w3.cell? ⟨W.heap.size + 1, 1, none⟩ = some (.string k1) := (hb3.cell (p := ⟨W.heap.size + 1, 1, none⟩) l2).trans d1
  have d2 : w3.cell? ⟨W.heap.size + 1, 2, none⟩ = some (.string s2) := (hb3.cell (p := ⟨W.heap.size + 1, 2, none⟩) l2).trans d2
  have l3 : W.heap.size < w3.heap.size := by omega
  have l4 : W.heap.size + 1 < w3.heap.size := by omega
  go_wp2_with (fail)
  refine (H13c.out _).mono ?_
  rintro e w4 ⟨rfl, hb4⟩
  go_wp2_with (fail)
  refine (awake_any _).mono ?_
  rintro e w5 ⟨rfl, hb5⟩
  go_wp2_with (fail)
  go_ret
  exact ⟨rfl, bl_then (bl_then (bl_then (bl_then hbl hb2) hb3) hb4) hb5⟩
set_option maxRecDepth 100000 in
set_option maxHeartbeats 2000000 in
theorem order_zmmz (t1 : Int) (k1 s1 : ByteArray) (t3 : Int) (k3 s3 : ByteArray) (W : World)  (hx : cmpT ⟨t1, k1, s1⟩ ⟨t1, k1, s1⟩ = (0)) (hy : cmpT ⟨t1, k1, s1⟩ ⟨t3, k3, s3⟩ = (-1)) (hz : cmpT ⟨t1, k1, s1⟩ ⟨t3, k3, s3⟩ = (-1)) :
    Calls Try.prog 4 #[.agg #[.int .i64 t1, .string k1, .string s1], .agg #[.int .i64 t1, .string k1, .string s1], .agg #[.int .i64 t3, .string k3, .string s3]] W fun e w' => e = .returned (.bool true) ∧ Below W.heap.size W w' := by
  have H13 : Hid (∀ (t1 : Int) (k1 s1 : ByteArray) (t2 : Int) (k2 s2 : ByteArray) w, Calls Try.prog 13 #[.agg #[.int .i64 t1, .string k1, .string s1], .agg #[.int .i64 t2, .string k2, .string s2]] w fun e w' => e = .returned (.int .i64 (cmpT ⟨t1, k1, s1⟩ ⟨t2, k2, s2⟩)) ∧ Below w.heap.size w w') := Lib.hid fun t1 k1 s1 t2 k2 s2 w => cmp_any _ _ _ _ _ _ w _ rfl
  have H13b : Hid (∀ w, Calls Try.prog 13 #[.agg #[.int .i64 t1, .string k1, .string s1], .agg #[.int .i64 t1, .string k1, .string s1]] w fun e w' => e = .returned (.int .i64 (0)) ∧ Below w.heap.size w w') := Lib.hid fun w => cmp_any _ _ _ _ _ _ w _ (by have := cmpT_neg ⟨t1, k1, s1⟩ ⟨t1, k1, s1⟩; rw [hx] at this; omega)
  have H13c : Hid (∀ w, Calls Try.prog 13 #[.agg #[.int .i64 t1, .string k1, .string s1], .agg #[.int .i64 t1, .string k1, .string s1]] w fun e w' => e = .returned (.int .i64 0) ∧ Below w.heap.size w w') := Lib.hid fun w => cmp_any _ _ _ _ _ _ w _ (cmpT_zero.2 rfl)
  have HX := Lib.hid hx
  have HY := Lib.hid hy
  have HZ := Lib.hid hz
  clear hx hy hz
  go_enter Try.func4, Try.ntmps4
  go_wp2_with (fail)
  have hbl : Below W.heap.size W (((W.alloc (Obj.cells #[.int .i64 t1, .string k1, .string s1] 23)).alloc (Obj.cells #[.int .i64 t1, .string k1, .string s1] 23)).alloc (Obj.cells #[.int .i64 t3, .string k3, .string s3] 23)) := bl_alloc (bl_alloc (bl_alloc (Below.refl _ _) _) _) _
  have c0 : (((W.alloc (Obj.cells #[.int .i64 t1, .string k1, .string s1] 23)).alloc (Obj.cells #[.int .i64 t1, .string k1, .string s1] 23)).alloc (Obj.cells #[.int .i64 t3, .string k3, .string s3] 23)).cell? ⟨W.heap.size, 0, none⟩ = some (.int .i64 t1) := by go_keep
  have c1 : (((W.alloc (Obj.cells #[.int .i64 t1, .string k1, .string s1] 23)).alloc (Obj.cells #[.int .i64 t1, .string k1, .string s1] 23)).alloc (Obj.cells #[.int .i64 t3, .string k3, .string s3] 23)).cell? ⟨W.heap.size, 1, none⟩ = some (.string k1) := by go_keep
  have c2 : (((W.alloc (Obj.cells #[.int .i64 t1, .string k1, .string s1] 23)).alloc (Obj.cells #[.int .i64 t1, .string k1, .string s1] 23)).alloc (Obj.cells #[.int .i64 t3, .string k3, .string s3] 23)).cell? ⟨W.heap.size, 2, none⟩ = some (.string s1) := by go_keep
  have d0 : (((W.alloc (Obj.cells #[.int .i64 t1, .string k1, .string s1] 23)).alloc (Obj.cells #[.int .i64 t1, .string k1, .string s1] 23)).alloc (Obj.cells #[.int .i64 t3, .string k3, .string s3] 23)).cell? ⟨W.heap.size + 1, 0, none⟩ = some (.int .i64 t1) := by go_keep
  have d1 : (((W.alloc (Obj.cells #[.int .i64 t1, .string k1, .string s1] 23)).alloc (Obj.cells #[.int .i64 t1, .string k1, .string s1] 23)).alloc (Obj.cells #[.int .i64 t3, .string k3, .string s3] 23)).cell? ⟨W.heap.size + 1, 1, none⟩ = some (.string k1) := by go_keep
  have d2 : (((W.alloc (Obj.cells #[.int .i64 t1, .string k1, .string s1] 23)).alloc (Obj.cells #[.int .i64 t1, .string k1, .string s1] 23)).alloc (Obj.cells #[.int .i64 t3, .string k3, .string s3] 23)).cell? ⟨W.heap.size + 1, 2, none⟩ = some (.string s1) := by go_keep
  have g0 : (((W.alloc (Obj.cells #[.int .i64 t1, .string k1, .string s1] 23)).alloc (Obj.cells #[.int .i64 t1, .string k1, .string s1] 23)).alloc (Obj.cells #[.int .i64 t3, .string k3, .string s3] 23)).cell? ⟨W.heap.size + 1 + 1, 0, none⟩ = some (.int .i64 t3) := tri_cell _ _ _ _ _ rfl
  have g1 : (((W.alloc (Obj.cells #[.int .i64 t1, .string k1, .string s1] 23)).alloc (Obj.cells #[.int .i64 t1, .string k1, .string s1] 23)).alloc (Obj.cells #[.int .i64 t3, .string k3, .string s3] 23)).cell? ⟨W.heap.size + 1 + 1, 1, none⟩ = some (.string k3) := tri_cell _ _ _ _ _ rfl
  have g2 : (((W.alloc (Obj.cells #[.int .i64 t1, .string k1, .string s1] 23)).alloc (Obj.cells #[.int .i64 t1, .string k1, .string s1] 23)).alloc (Obj.cells #[.int .i64 t3, .string k3, .string s3] 23)).cell? ⟨W.heap.size + 1 + 1, 2, none⟩ = some (.string s3) := tri_cell _ _ _ _ _ rfl
  have l0 : W.heap.size + 1 + 1 < (((W.alloc (Obj.cells #[.int .i64 t1, .string k1, .string s1] 23)).alloc (Obj.cells #[.int .i64 t1, .string k1, .string s1] 23)).alloc (Obj.cells #[.int .i64 t3, .string k3, .string s3] 23)).heap.size := by simp
  generalize (((W.alloc (Obj.cells #[.int .i64 t1, .string k1, .string s1] 23)).alloc (Obj.cells #[.int .i64 t1, .string k1, .string s1] 23)).alloc (Obj.cells #[.int .i64 t3, .string k3, .string s3] 23)) = w1 at *
  have e0 := ext_cell c0
  have e1 := ext_cell c1
  have e2 := ext_cell c2
  have f0 := ext_cell d0
  have f1 := ext_cell d1
  have f2 := ext_cell d2
  have q0 := ext_cell g0
  have q1 := ext_cell g1
  have q2 := ext_cell g2
  refine wp_region_ext (by kernel_rfl) (by kernel_rfl) ?_
  repeat (go_big_quiet_step ((go_at_call 13; exact ext_calls (H13.out _ _ _ _ _ _ _))))
  refine wpQuiet_nil ?_
  rintro w2 ⟨⟨_, hb2⟩, rfl⟩
  simp only [HX.out, HY.out, HZ.out]
  have hs2 := hb2.size
  have c0 : w2.cell? ⟨W.heap.size, 0, none⟩ = some (.int .i64 t1) := (hb2.cell (p := ⟨W.heap.size, 0, none⟩) (show W.heap.size < w1.heap.size by omega)).trans c0
  have c1 : w2.cell? ⟨W.heap.size, 1, none⟩ = some (.string k1) := (hb2.cell (p := ⟨W.heap.size, 1, none⟩) (show W.heap.size < w1.heap.size by omega)).trans c1
  have c2 : w2.cell? ⟨W.heap.size, 2, none⟩ = some (.string s1) := (hb2.cell (p := ⟨W.heap.size, 2, none⟩) (show W.heap.size < w1.heap.size by omega)).trans c2
  have d0 : w2.cell? ⟨W.heap.size + 1, 0, none⟩ = some (.int .i64 t1) := (hb2.cell (p := ⟨W.heap.size + 1, 0, none⟩) (show W.heap.size + 1 < w1.heap.size by omega)).trans d0
  have d1 : w2.cell? ⟨W.heap.size + 1, 1, none⟩ = some (.string k1) := (hb2.cell (p := ⟨W.heap.size + 1, 1, none⟩) (show W.heap.size + 1 < w1.heap.size by omega)).trans d1
  have d2 : w2.cell? ⟨W.heap.size + 1, 2, none⟩ = some (.string s1) := (hb2.cell (p := ⟨W.heap.size + 1, 2, none⟩) (show W.heap.size + 1 < w1.heap.size by omega)).trans d2
  have l1 : W.heap.size < w2.heap.size := by omega
  have l2 : W.heap.size + 1 < w2.heap.size := by omega
  clear e0 e1 e2 f0 f1 f2 q0 q1 q2 g0 g1 g2
  go_wp2_with (fail)
  refine (H13b.out _).mono ?_
  rintro e w3 ⟨rfl, hb3⟩
  have hs3 := hb3.size
  have c0 : w3.cell? ⟨W.heap.size, 0, none⟩ = some (.int .i64 t1) := (hb3.cell (p := ⟨W.heap.size, 0, none⟩) l1).trans c0
  have c1 : w3.cell? ⟨W.heap.size, 1, none⟩ = some (.string k1) := (hb3.cell (p := ⟨W.heap.size, 1, none⟩) l1).trans c1
  have c2 : w3.cell? ⟨W.heap.size, 2, none⟩ = some (.string s1) := (hb3.cell (p := ⟨W.heap.size, 2, none⟩) l1).trans c2
  have d0 : w3.cell? ⟨W.heap.size + 1, 0, none⟩ = some (.int .i64 t1) := (hb3.cell (p := ⟨W.heap.size + 1, 0, none⟩) l2).trans d0
  have d1 : w3.cell? ⟨W.heap.size + 1, 1, none⟩ = some (.string k1) := (hb3.cell (p := ⟨W.heap.size + 1, 1, none⟩) l2).trans d1
  have d2 : w3.cell? ⟨W.heap.size + 1, 2, none⟩ = some (.string s1) := (hb3.cell (p := ⟨W.heap.size + 1, 2, none⟩) l2).trans d2
  have l3 : W.heap.size < w3.heap.size := by omega
  have l4 : W.heap.size + 1 < w3.heap.size := by omega
  go_wp2_with (fail)
  refine (H13c.out _).mono ?_
  rintro e w4 ⟨rfl, hb4⟩
  go_wp2_with (fail)
  refine (awake_any _).mono ?_
  rintro e w5 ⟨rfl, hb5⟩
  go_wp2_with (fail)
  go_ret
  exact ⟨rfl, bl_then (bl_then (bl_then (bl_then hbl hb2) hb3) hb4) hb5⟩
set_option maxRecDepth 100000 in
set_option maxHeartbeats 2000000 in
theorem order_zzzz (t1 : Int) (k1 s1 : ByteArray) (t3 : Int) (k3 s3 : ByteArray) (W : World)  (hx : cmpT ⟨t1, k1, s1⟩ ⟨t1, k1, s1⟩ = (0)) (hy : cmpT ⟨t1, k1, s1⟩ ⟨t3, k3, s3⟩ = (0)) (hz : cmpT ⟨t1, k1, s1⟩ ⟨t3, k3, s3⟩ = (0)) :
    Calls Try.prog 4 #[.agg #[.int .i64 t1, .string k1, .string s1], .agg #[.int .i64 t1, .string k1, .string s1], .agg #[.int .i64 t3, .string k3, .string s3]] W fun e w' => e = .returned (.bool true) ∧ Below W.heap.size W w' := by
  have H13 : Hid (∀ (t1 : Int) (k1 s1 : ByteArray) (t2 : Int) (k2 s2 : ByteArray) w, Calls Try.prog 13 #[.agg #[.int .i64 t1, .string k1, .string s1], .agg #[.int .i64 t2, .string k2, .string s2]] w fun e w' => e = .returned (.int .i64 (cmpT ⟨t1, k1, s1⟩ ⟨t2, k2, s2⟩)) ∧ Below w.heap.size w w') := Lib.hid fun t1 k1 s1 t2 k2 s2 w => cmp_any _ _ _ _ _ _ w _ rfl
  have H13b : Hid (∀ w, Calls Try.prog 13 #[.agg #[.int .i64 t1, .string k1, .string s1], .agg #[.int .i64 t1, .string k1, .string s1]] w fun e w' => e = .returned (.int .i64 (0)) ∧ Below w.heap.size w w') := Lib.hid fun w => cmp_any _ _ _ _ _ _ w _ (by have := cmpT_neg ⟨t1, k1, s1⟩ ⟨t1, k1, s1⟩; rw [hx] at this; omega)
  have H13c : Hid (∀ w, Calls Try.prog 13 #[.agg #[.int .i64 t1, .string k1, .string s1], .agg #[.int .i64 t1, .string k1, .string s1]] w fun e w' => e = .returned (.int .i64 0) ∧ Below w.heap.size w w') := Lib.hid fun w => cmp_any _ _ _ _ _ _ w _ (cmpT_zero.2 rfl)
  have HX := Lib.hid hx
  have HY := Lib.hid hy
  have HZ := Lib.hid hz
  clear hx hy hz
  go_enter Try.func4, Try.ntmps4
  go_wp2_with (fail)
  have hbl : Below W.heap.size W (((W.alloc (Obj.cells #[.int .i64 t1, .string k1, .string s1] 23)).alloc (Obj.cells #[.int .i64 t1, .string k1, .string s1] 23)).alloc (Obj.cells #[.int .i64 t3, .string k3, .string s3] 23)) := bl_alloc (bl_alloc (bl_alloc (Below.refl _ _) _) _) _
  have c0 : (((W.alloc (Obj.cells #[.int .i64 t1, .string k1, .string s1] 23)).alloc (Obj.cells #[.int .i64 t1, .string k1, .string s1] 23)).alloc (Obj.cells #[.int .i64 t3, .string k3, .string s3] 23)).cell? ⟨W.heap.size, 0, none⟩ = some (.int .i64 t1) := by go_keep
  have c1 : (((W.alloc (Obj.cells #[.int .i64 t1, .string k1, .string s1] 23)).alloc (Obj.cells #[.int .i64 t1, .string k1, .string s1] 23)).alloc (Obj.cells #[.int .i64 t3, .string k3, .string s3] 23)).cell? ⟨W.heap.size, 1, none⟩ = some (.string k1) := by go_keep
  have c2 : (((W.alloc (Obj.cells #[.int .i64 t1, .string k1, .string s1] 23)).alloc (Obj.cells #[.int .i64 t1, .string k1, .string s1] 23)).alloc (Obj.cells #[.int .i64 t3, .string k3, .string s3] 23)).cell? ⟨W.heap.size, 2, none⟩ = some (.string s1) := by go_keep
  have d0 : (((W.alloc (Obj.cells #[.int .i64 t1, .string k1, .string s1] 23)).alloc (Obj.cells #[.int .i64 t1, .string k1, .string s1] 23)).alloc (Obj.cells #[.int .i64 t3, .string k3, .string s3] 23)).cell? ⟨W.heap.size + 1, 0, none⟩ = some (.int .i64 t1) := by go_keep
  have d1 : (((W.alloc (Obj.cells #[.int .i64 t1, .string k1, .string s1] 23)).alloc (Obj.cells #[.int .i64 t1, .string k1, .string s1] 23)).alloc (Obj.cells #[.int .i64 t3, .string k3, .string s3] 23)).cell? ⟨W.heap.size + 1, 1, none⟩ = some (.string k1) := by go_keep
  have d2 : (((W.alloc (Obj.cells #[.int .i64 t1, .string k1, .string s1] 23)).alloc (Obj.cells #[.int .i64 t1, .string k1, .string s1] 23)).alloc (Obj.cells #[.int .i64 t3, .string k3, .string s3] 23)).cell? ⟨W.heap.size + 1, 2, none⟩ = some (.string s1) := by go_keep
  have g0 : (((W.alloc (Obj.cells #[.int .i64 t1, .string k1, .string s1] 23)).alloc (Obj.cells #[.int .i64 t1, .string k1, .string s1] 23)).alloc (Obj.cells #[.int .i64 t3, .string k3, .string s3] 23)).cell? ⟨W.heap.size + 1 + 1, 0, none⟩ = some (.int .i64 t3) := tri_cell _ _ _ _ _ rfl
  have g1 : (((W.alloc (Obj.cells #[.int .i64 t1, .string k1, .string s1] 23)).alloc (Obj.cells #[.int .i64 t1, .string k1, .string s1] 23)).alloc (Obj.cells #[.int .i64 t3, .string k3, .string s3] 23)).cell? ⟨W.heap.size + 1 + 1, 1, none⟩ = some (.string k3) := tri_cell _ _ _ _ _ rfl
  have g2 : (((W.alloc (Obj.cells #[.int .i64 t1, .string k1, .string s1] 23)).alloc (Obj.cells #[.int .i64 t1, .string k1, .string s1] 23)).alloc (Obj.cells #[.int .i64 t3, .string k3, .string s3] 23)).cell? ⟨W.heap.size + 1 + 1, 2, none⟩ = some (.string s3) := tri_cell _ _ _ _ _ rfl
  have l0 : W.heap.size + 1 + 1 < (((W.alloc (Obj.cells #[.int .i64 t1, .string k1, .string s1] 23)).alloc (Obj.cells #[.int .i64 t1, .string k1, .string s1] 23)).alloc (Obj.cells #[.int .i64 t3, .string k3, .string s3] 23)).heap.size := by simp
  generalize (((W.alloc (Obj.cells #[.int .i64 t1, .string k1, .string s1] 23)).alloc (Obj.cells #[.int .i64 t1, .string k1, .string s1] 23)).alloc (Obj.cells #[.int .i64 t3, .string k3, .string s3] 23)) = w1 at *
  have e0 := ext_cell c0
  have e1 := ext_cell c1
  have e2 := ext_cell c2
  have f0 := ext_cell d0
  have f1 := ext_cell d1
  have f2 := ext_cell d2
  have q0 := ext_cell g0
  have q1 := ext_cell g1
  have q2 := ext_cell g2
  refine wp_region_ext (by kernel_rfl) (by kernel_rfl) ?_
  repeat (go_big_quiet_step ((go_at_call 13; exact ext_calls (H13.out _ _ _ _ _ _ _))))
  refine wpQuiet_nil ?_
  rintro w2 ⟨⟨_, hb2⟩, rfl⟩
  simp only [HX.out, HY.out, HZ.out]
  have hs2 := hb2.size
  have c0 : w2.cell? ⟨W.heap.size, 0, none⟩ = some (.int .i64 t1) := (hb2.cell (p := ⟨W.heap.size, 0, none⟩) (show W.heap.size < w1.heap.size by omega)).trans c0
  have c1 : w2.cell? ⟨W.heap.size, 1, none⟩ = some (.string k1) := (hb2.cell (p := ⟨W.heap.size, 1, none⟩) (show W.heap.size < w1.heap.size by omega)).trans c1
  have c2 : w2.cell? ⟨W.heap.size, 2, none⟩ = some (.string s1) := (hb2.cell (p := ⟨W.heap.size, 2, none⟩) (show W.heap.size < w1.heap.size by omega)).trans c2
  have d0 : w2.cell? ⟨W.heap.size + 1, 0, none⟩ = some (.int .i64 t1) := (hb2.cell (p := ⟨W.heap.size + 1, 0, none⟩) (show W.heap.size + 1 < w1.heap.size by omega)).trans d0
  have d1 : w2.cell? ⟨W.heap.size + 1, 1, none⟩ = some (.string k1) := (hb2.cell (p := ⟨W.heap.size + 1, 1, none⟩) (show W.heap.size + 1 < w1.heap.size by omega)).trans d1
  have d2 : w2.cell? ⟨W.heap.size + 1, 2, none⟩ = some (.string s1) := (hb2.cell (p := ⟨W.heap.size + 1, 2, none⟩) (show W.heap.size + 1 < w1.heap.size by omega)).trans d2
  have l1 : W.heap.size < w2.heap.size := by omega
  have l2 : W.heap.size + 1 < w2.heap.size := by omega
  clear e0 e1 e2 f0 f1 f2 q0 q1 q2 g0 g1 g2
  go_wp2_with (fail)
  refine (H13b.out _).mono ?_
  rintro e w3 ⟨rfl, hb3⟩
  have hs3 := hb3.size
  have c0 : w3.cell? ⟨W.heap.size, 0, none⟩ = some (.int .i64 t1) := (hb3.cell (p := ⟨W.heap.size, 0, none⟩) l1).trans c0
  have c1 : w3.cell? ⟨W.heap.size, 1, none⟩ = some (.string k1) := (hb3.cell (p := ⟨W.heap.size, 1, none⟩) l1).trans c1
  have c2 : w3.cell? ⟨W.heap.size, 2, none⟩ = some (.string s1) := (hb3.cell (p := ⟨W.heap.size, 2, none⟩) l1).trans c2
  have d0 : w3.cell? ⟨W.heap.size + 1, 0, none⟩ = some (.int .i64 t1) := (hb3.cell (p := ⟨W.heap.size + 1, 0, none⟩) l2).trans d0
  have d1 : w3.cell? ⟨W.heap.size + 1, 1, none⟩ = some (.string k1) := (hb3.cell (p := ⟨W.heap.size + 1, 1, none⟩) l2).trans d1
  have d2 : w3.cell? ⟨W.heap.size + 1, 2, none⟩ = some (.string s1) := (hb3.cell (p := ⟨W.heap.size + 1, 2, none⟩) l2).trans d2
  have l3 : W.heap.size < w3.heap.size := by omega
  have l4 : W.heap.size + 1 < w3.heap.size := by omega
  go_wp2_with (fail)
  refine (H13c.out _).mono ?_
  rintro e w4 ⟨rfl, hb4⟩
  go_wp2_with (fail)
  refine (awake_any _).mono ?_
  rintro e w5 ⟨rfl, hb5⟩
  go_wp2_with (fail)
  go_ret
  exact ⟨rfl, bl_then (bl_then (bl_then (bl_then hbl hb2) hb3) hb4) hb5⟩
set_option maxRecDepth 100000 in
set_option maxHeartbeats 2000000 in
theorem order_zppz (t1 : Int) (k1 s1 : ByteArray) (t3 : Int) (k3 s3 : ByteArray) (W : World)  (hx : cmpT ⟨t1, k1, s1⟩ ⟨t1, k1, s1⟩ = (0)) (hy : cmpT ⟨t1, k1, s1⟩ ⟨t3, k3, s3⟩ = (1)) (hz : cmpT ⟨t1, k1, s1⟩ ⟨t3, k3, s3⟩ = (1)) :
    Calls Try.prog 4 #[.agg #[.int .i64 t1, .string k1, .string s1], .agg #[.int .i64 t1, .string k1, .string s1], .agg #[.int .i64 t3, .string k3, .string s3]] W fun e w' => e = .returned (.bool true) ∧ Below W.heap.size W w' := by
  have H13 : Hid (∀ (t1 : Int) (k1 s1 : ByteArray) (t2 : Int) (k2 s2 : ByteArray) w, Calls Try.prog 13 #[.agg #[.int .i64 t1, .string k1, .string s1], .agg #[.int .i64 t2, .string k2, .string s2]] w fun e w' => e = .returned (.int .i64 (cmpT ⟨t1, k1, s1⟩ ⟨t2, k2, s2⟩)) ∧ Below w.heap.size w w') := Lib.hid fun t1 k1 s1 t2 k2 s2 w => cmp_any _ _ _ _ _ _ w _ rfl
  have H13b : Hid (∀ w, Calls Try.prog 13 #[.agg #[.int .i64 t1, .string k1, .string s1], .agg #[.int .i64 t1, .string k1, .string s1]] w fun e w' => e = .returned (.int .i64 (0)) ∧ Below w.heap.size w w') := Lib.hid fun w => cmp_any _ _ _ _ _ _ w _ (by have := cmpT_neg ⟨t1, k1, s1⟩ ⟨t1, k1, s1⟩; rw [hx] at this; omega)
  have H13c : Hid (∀ w, Calls Try.prog 13 #[.agg #[.int .i64 t1, .string k1, .string s1], .agg #[.int .i64 t1, .string k1, .string s1]] w fun e w' => e = .returned (.int .i64 0) ∧ Below w.heap.size w w') := Lib.hid fun w => cmp_any _ _ _ _ _ _ w _ (cmpT_zero.2 rfl)
  have HX := Lib.hid hx
  have HY := Lib.hid hy
  have HZ := Lib.hid hz
  clear hx hy hz
  go_enter Try.func4, Try.ntmps4
  go_wp2_with (fail)
  have hbl : Below W.heap.size W (((W.alloc (Obj.cells #[.int .i64 t1, .string k1, .string s1] 23)).alloc (Obj.cells #[.int .i64 t1, .string k1, .string s1] 23)).alloc (Obj.cells #[.int .i64 t3, .string k3, .string s3] 23)) := bl_alloc (bl_alloc (bl_alloc (Below.refl _ _) _) _) _
  have c0 : (((W.alloc (Obj.cells #[.int .i64 t1, .string k1, .string s1] 23)).alloc (Obj.cells #[.int .i64 t1, .string k1, .string s1] 23)).alloc (Obj.cells #[.int .i64 t3, .string k3, .string s3] 23)).cell? ⟨W.heap.size, 0, none⟩ = some (.int .i64 t1) := by go_keep
  have c1 : (((W.alloc (Obj.cells #[.int .i64 t1, .string k1, .string s1] 23)).alloc (Obj.cells #[.int .i64 t1, .string k1, .string s1] 23)).alloc (Obj.cells #[.int .i64 t3, .string k3, .string s3] 23)).cell? ⟨W.heap.size, 1, none⟩ = some (.string k1) := by go_keep
  have c2 : (((W.alloc (Obj.cells #[.int .i64 t1, .string k1, .string s1] 23)).alloc (Obj.cells #[.int .i64 t1, .string k1, .string s1] 23)).alloc (Obj.cells #[.int .i64 t3, .string k3, .string s3] 23)).cell? ⟨W.heap.size, 2, none⟩ = some (.string s1) := by go_keep
  have d0 : (((W.alloc (Obj.cells #[.int .i64 t1, .string k1, .string s1] 23)).alloc (Obj.cells #[.int .i64 t1, .string k1, .string s1] 23)).alloc (Obj.cells #[.int .i64 t3, .string k3, .string s3] 23)).cell? ⟨W.heap.size + 1, 0, none⟩ = some (.int .i64 t1) := by go_keep
  have d1 : (((W.alloc (Obj.cells #[.int .i64 t1, .string k1, .string s1] 23)).alloc (Obj.cells #[.int .i64 t1, .string k1, .string s1] 23)).alloc (Obj.cells #[.int .i64 t3, .string k3, .string s3] 23)).cell? ⟨W.heap.size + 1, 1, none⟩ = some (.string k1) := by go_keep
  have d2 : (((W.alloc (Obj.cells #[.int .i64 t1, .string k1, .string s1] 23)).alloc (Obj.cells #[.int .i64 t1, .string k1, .string s1] 23)).alloc (Obj.cells #[.int .i64 t3, .string k3, .string s3] 23)).cell? ⟨W.heap.size + 1, 2, none⟩ = some (.string s1) := by go_keep
  have g0 : (((W.alloc (Obj.cells #[.int .i64 t1, .string k1, .string s1] 23)).alloc (Obj.cells #[.int .i64 t1, .string k1, .string s1] 23)).alloc (Obj.cells #[.int .i64 t3, .string k3, .string s3] 23)).cell? ⟨W.heap.size + 1 + 1, 0, none⟩ = some (.int .i64 t3) := tri_cell _ _ _ _ _ rfl
  have g1 : (((W.alloc (Obj.cells #[.int .i64 t1, .string k1, .string s1] 23)).alloc (Obj.cells #[.int .i64 t1, .string k1, .string s1] 23)).alloc (Obj.cells #[.int .i64 t3, .string k3, .string s3] 23)).cell? ⟨W.heap.size + 1 + 1, 1, none⟩ = some (.string k3) := tri_cell _ _ _ _ _ rfl
  have g2 : (((W.alloc (Obj.cells #[.int .i64 t1, .string k1, .string s1] 23)).alloc (Obj.cells #[.int .i64 t1, .string k1, .string s1] 23)).alloc (Obj.cells #[.int .i64 t3, .string k3, .string s3] 23)).cell? ⟨W.heap.size + 1 + 1, 2, none⟩ = some (.string s3) := tri_cell _ _ _ _ _ rfl
  have l0 : W.heap.size + 1 + 1 < (((W.alloc (Obj.cells #[.int .i64 t1, .string k1, .string s1] 23)).alloc (Obj.cells #[.int .i64 t1, .string k1, .string s1] 23)).alloc (Obj.cells #[.int .i64 t3, .string k3, .string s3] 23)).heap.size := by simp
  generalize (((W.alloc (Obj.cells #[.int .i64 t1, .string k1, .string s1] 23)).alloc (Obj.cells #[.int .i64 t1, .string k1, .string s1] 23)).alloc (Obj.cells #[.int .i64 t3, .string k3, .string s3] 23)) = w1 at *
  have e0 := ext_cell c0
  have e1 := ext_cell c1
  have e2 := ext_cell c2
  have f0 := ext_cell d0
  have f1 := ext_cell d1
  have f2 := ext_cell d2
  have q0 := ext_cell g0
  have q1 := ext_cell g1
  have q2 := ext_cell g2
  refine wp_region_ext (by kernel_rfl) (by kernel_rfl) ?_
  repeat (go_big_quiet_step ((go_at_call 13; exact ext_calls (H13.out _ _ _ _ _ _ _))))
  refine wpQuiet_nil ?_
  rintro w2 ⟨⟨_, hb2⟩, rfl⟩
  simp only [HX.out, HY.out, HZ.out]
  have hs2 := hb2.size
  have c0 : w2.cell? ⟨W.heap.size, 0, none⟩ = some (.int .i64 t1) := (hb2.cell (p := ⟨W.heap.size, 0, none⟩) (show W.heap.size < w1.heap.size by omega)).trans c0
  have c1 : w2.cell? ⟨W.heap.size, 1, none⟩ = some (.string k1) := (hb2.cell (p := ⟨W.heap.size, 1, none⟩) (show W.heap.size < w1.heap.size by omega)).trans c1
  have c2 : w2.cell? ⟨W.heap.size, 2, none⟩ = some (.string s1) := (hb2.cell (p := ⟨W.heap.size, 2, none⟩) (show W.heap.size < w1.heap.size by omega)).trans c2
  have d0 : w2.cell? ⟨W.heap.size + 1, 0, none⟩ = some (.int .i64 t1) := (hb2.cell (p := ⟨W.heap.size + 1, 0, none⟩) (show W.heap.size + 1 < w1.heap.size by omega)).trans d0
  have d1 : w2.cell? ⟨W.heap.size + 1, 1, none⟩ = some (.string k1) := (hb2.cell (p := ⟨W.heap.size + 1, 1, none⟩) (show W.heap.size + 1 < w1.heap.size by omega)).trans d1
  have d2 : w2.cell? ⟨W.heap.size + 1, 2, none⟩ = some (.string s1) := (hb2.cell (p := ⟨W.heap.size + 1, 2, none⟩) (show W.heap.size + 1 < w1.heap.size by omega)).trans d2
  have l1 : W.heap.size < w2.heap.size := by omega
  have l2 : W.heap.size + 1 < w2.heap.size := by omega
  clear e0 e1 e2 f0 f1 f2 q0 q1 q2 g0 g1 g2
  go_wp2_with (fail)
  refine (H13b.out _).mono ?_
  rintro e w3 ⟨rfl, hb3⟩
  have hs3 := hb3.size
  have c0 : w3.cell? ⟨W.heap.size, 0, none⟩ = some (.int .i64 t1) := (hb3.cell (p := ⟨W.heap.size, 0, none⟩) l1).trans c0
  have c1 : w3.cell? ⟨W.heap.size, 1, none⟩ = some (.string k1) := (hb3.cell (p := ⟨W.heap.size, 1, none⟩) l1).trans c1
  have c2 : w3.cell? ⟨W.heap.size, 2, none⟩ = some (.string s1) := (hb3.cell (p := ⟨W.heap.size, 2, none⟩) l1).trans c2
  have d0 : w3.cell? ⟨W.heap.size + 1, 0, none⟩ = some (.int .i64 t1) := (hb3.cell (p := ⟨W.heap.size + 1, 0, none⟩) l2).trans d0
  have d1 : w3.cell? ⟨W.heap.size + 1, 1, none⟩ = some (.string k1) := (hb3.cell (p := ⟨W.heap.size + 1, 1, none⟩) l2).trans d1
  have d2 : w3.cell? ⟨W.heap.size + 1, 2, none⟩ = some (.string s1) := (hb3.cell (p := ⟨W.heap.size + 1, 2, none⟩) l2).trans d2
  have l3 : W.heap.size < w3.heap.size := by omega
  have l4 : W.heap.size + 1 < w3.heap.size := by omega
  go_wp2_with (fail)
  refine (H13c.out _).mono ?_
  rintro e w4 ⟨rfl, hb4⟩
  go_wp2_with (fail)
  refine (awake_any _).mono ?_
  rintro e w5 ⟨rfl, hb5⟩
  go_wp2_with (fail)
  go_ret
  exact ⟨rfl, bl_then (bl_then (bl_then (bl_then hbl hb2) hb3) hb4) hb5⟩
end Go.Proofs.Ytlmnnbmihimedaa
