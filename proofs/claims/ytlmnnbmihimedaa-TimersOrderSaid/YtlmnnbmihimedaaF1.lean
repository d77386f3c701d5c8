/- The walk of the law TimersCmp. Conditions: as the theorem states them. -/
import Derived.Test.YtlmnnbmihimedaaF0
namespace Go.Proofs.Ytlmnnbmihimedaa
open Go.RowKit Go.Maps
set_option linter.unusedVariables false
set_option linter.unusedSimpArgs false

set_option maxRecDepth 100000 in
set_option maxHeartbeats 2000000 in
theorem cmp_walk (t1 : Int) (k1 s1 : ByteArray) (t2 : Int) (k2 s2 : ByteArray) (W : World) :
    Calls Try.prog 3 #[.agg #[.int .i64 t1, .string k1, .string s1], .agg #[.int .i64 t2, .string k2, .string s2]] W fun e w' => e = .returned (.bool true) ∧ Below W.heap.size W w' := by
  have H11 : Hid (∀ w, Calls Try.prog 11 #[.agg #[.int .i64 t1, .string k1, .string s1]] w fun e w' => e = .returned (.int .i64 (chkT ⟨t1, k1, s1⟩)) ∧ Below w.heap.size w w') := Lib.hid fun w => check_any ⟨t1, k1, s1⟩ w
  have H12 : Hid (∀ w, Calls Try.prog 12 #[.agg #[.int .i64 t1, .string k1, .string s1]] w fun e w' => e = .returned (.int .i64 (chkT ⟨t1, k1, s1⟩)) ∧ Below w.heap.size w w') := Lib.hid fun w => refcheck_any ⟨t1, k1, s1⟩ w
  have H13 : Hid (∀ (t1 : Int) (k1 s1 : ByteArray) (t2 : Int) (k2 s2 : ByteArray) w, Calls Try.prog 13 #[.agg #[.int .i64 t1, .string k1, .string s1], .agg #[.int .i64 t2, .string k2, .string s2]] w fun e w' => e = .returned (.int .i64 (cmpT ⟨t1, k1, s1⟩ ⟨t2, k2, s2⟩)) ∧ Below w.heap.size w w') := Lib.hid fun t1 k1 s1 t2 k2 s2 w => cmp_any _ _ _ _ _ _ w _ rfl
  have H14 : Hid (∀ w, Calls Try.prog 14 #[.agg #[.int .i64 t1, .string k1, .string s1], .agg #[.int .i64 t2, .string k2, .string s2]] w fun e w' => e = .returned (.int .i64 (cmpT ⟨t1, k1, s1⟩ ⟨t2, k2, s2⟩)) ∧ Below w.heap.size w w') := Lib.hid fun w => refcmp_any ⟨t1, k1, s1⟩ ⟨t2, k2, s2⟩ w
  have H15 : Hid (∀ w, Calls Try.prog 15 #[] w fun e w' => e = .returned (.bool true) ∧ Below w.heap.size w w') := Lib.hid awake_any
  have HW : Hid ((cmpT ⟨t2, k2, s2⟩ ⟨t1, k1, s1⟩ == wrap64 (-(cmpT ⟨t1, k1, s1⟩ ⟨t2, k2, s2⟩))) = true) := Lib.hid (by
    have hb := cmpT_bound ⟨t1, k1, s1⟩ ⟨t2, k2, s2⟩
    have hw : wrap64 (-(cmpT ⟨t1, k1, s1⟩ ⟨t2, k2, s2⟩)) = -(cmpT ⟨t1, k1, s1⟩ ⟨t2, k2, s2⟩) := by
      unfold wrap64
      omega
    rw [cmpT_neg ⟨t1, k1, s1⟩ ⟨t2, k2, s2⟩, hw]
    exact beq_self_eq_true _)
  go_enter Try.func3, Try.ntmps3
  go_wp2_with (fail)
  have hbl : Below W.heap.size W ((W.alloc (Obj.cells #[.int .i64 t1, .string k1, .string s1] 23)).alloc (Obj.cells #[.int .i64 t2, .string k2, .string s2] 23)) := bl_alloc (bl_alloc (Below.refl _ _) _) _
  have c0 : ((W.alloc (Obj.cells #[.int .i64 t1, .string k1, .string s1] 23)).alloc (Obj.cells #[.int .i64 t2, .string k2, .string s2] 23)).cell? ⟨W.heap.size, 0, none⟩ = some (.int .i64 t1) := by go_keep
  have c1 : ((W.alloc (Obj.cells #[.int .i64 t1, .string k1, .string s1] 23)).alloc (Obj.cells #[.int .i64 t2, .string k2, .string s2] 23)).cell? ⟨W.heap.size, 1, none⟩ = some (.string k1) := by go_keep
  have c2 : ((W.alloc (Obj.cells #[.int .i64 t1, .string k1, .string s1] 23)).alloc (Obj.cells #[.int .i64 t2, .string k2, .string s2] 23)).cell? ⟨W.heap.size, 2, none⟩ = some (.string s1) := by go_keep
  have d0 : ((W.alloc (Obj.cells #[.int .i64 t1, .string k1, .string s1] 23)).alloc (Obj.cells #[.int .i64 t2, .string k2, .string s2] 23)).cell? ⟨W.heap.size + 1, 0, none⟩ = some (.int .i64 t2) := by go_keep
  have d1 : ((W.alloc (Obj.cells #[.int .i64 t1, .string k1, .string s1] 23)).alloc (Obj.cells #[.int .i64 t2, .string k2, .string s2] 23)).cell? ⟨W.heap.size + 1, 1, none⟩ = some (.string k2) := by go_keep
  have d2 : ((W.alloc (Obj.cells #[.int .i64 t1, .string k1, .string s1] 23)).alloc (Obj.cells #[.int .i64 t2, .string k2, .string s2] 23)).cell? ⟨W.heap.size + 1, 2, none⟩ = some (.string s2) := by go_keep
  have l0 : W.heap.size < ((W.alloc (Obj.cells #[.int .i64 t1, .string k1, .string s1] 23)).alloc (Obj.cells #[.int .i64 t2, .string k2, .string s2] 23)).heap.size := by simp; omega
  have l1 : W.heap.size + 1 < ((W.alloc (Obj.cells #[.int .i64 t1, .string k1, .string s1] 23)).alloc (Obj.cells #[.int .i64 t2, .string k2, .string s2] 23)).heap.size := by simp
  generalize ((W.alloc (Obj.cells #[.int .i64 t1, .string k1, .string s1] 23)).alloc (Obj.cells #[.int .i64 t2, .string k2, .string s2] 23)) = w1 at *
  have e0 := ext_cell c0
  have e1 := ext_cell c1
  have e2 := ext_cell c2
  have f0 := ext_cell d0
  have f1 := ext_cell d1
  have f2 := ext_cell d2
  refine wp_region_ext (by kernel_rfl) (by kernel_rfl) ?_
  repeat (first | rw [HW.out] | go_big_quiet_step ((first | (go_at_call 11; exact ext_calls (H11.out _)) | (go_at_call 12; exact ext_calls (H12.out _)) | (go_at_call 13; exact ext_calls (H13.out _ _ _ _ _ _ _)) | (go_at_call 14; exact ext_calls (H14.out _)) | (go_at_call 15; exact ext_calls (H15.out _)))))
  refine wpQuiet_nil ?_
  rintro w2 ⟨⟨_, hb2⟩, rfl⟩
  go_wp2_with (fail)
  go_ret
  exact ⟨rfl, bl_then hbl hb2⟩
end Go.Proofs.Ytlmnnbmihimedaa
