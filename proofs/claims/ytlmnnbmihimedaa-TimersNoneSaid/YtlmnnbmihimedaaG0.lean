/- A queue that is not there, or that nobody made. Conditions: as each theorem states them. -/
import Derived.Test.YtlmnnbmihimedaaF0
namespace Go.Proofs.Ytlmnnbmihimedaa
open Go.RowKit Go.Maps
set_option linter.unusedVariables false
set_option linter.unusedSimpArgs false

/-- p is a queue that is not there, or that nobody made; it stays one. -/
def NoneQ (w : World) (a : Option Addr) : Prop := ∀ w', Below w.heap.size w w' → Calls Try.prog 31 #[.pointer a] w' fun e w'' => e = .returned (.bool true) ∧ w' = w''
theorem NoneQ.below {w w' : World} {a : Option Addr} (h : NoneQ w a) (hb : Below w.heap.size w w') : NoneQ w' a := fun w'' h' => h w'' (bl_then hb h')
theorem noneQ_nil (w : World) : NoneQ w none := fun w' _ => none_nil w'
theorem noneQ_zero (w : World) (q : Nat) (h : w.cell? ⟨q, 3, none⟩ = some (.map none)) : NoneQ w (some ⟨q, 0, none⟩) := fun w' hb => none_zero q w' ((hb.cell (p := ⟨q, 3, none⟩) (World.block_lt_of_cell? w _ h)).trans h)
theorem put_none (a : Option Addr) (x : Tm) (w : World) (h : NoneQ w a) : Calls Try.prog 24 #[.pointer a, tmV x] w fun e w' => e = .returned (.int .i64 1) ∧ Below w.heap.size w w' := by
  have hN := h _ (bl_alloc (Below.refl _ _) (.cells #[.int .i64 x.t, .string x.k, .string x.s] 23))
  unfold tmV
  go_enter Try.func24, Try.ntmps24
  go_wp2_with (fail)
  refine hN.mono ?_
  rintro e w1 ⟨rfl, rfl⟩
  go_wp2_with (fail)
  go_ret
  exact ⟨rfl, bl_alloc (Below.refl _ _) _⟩
theorem drop_none (a : Option Addr) (x : Tm) (w : World) (h : NoneQ w a) : Calls Try.prog 26 #[.pointer a, tmV x] w fun e w' => e = .returned (.int .i64 1) ∧ Below w.heap.size w w' := by
  have hN := h _ (bl_alloc (Below.refl _ _) (.cells #[.int .i64 x.t, .string x.k, .string x.s] 23))
  unfold tmV
  go_enter Try.func26, Try.ntmps26
  go_wp2_with (fail)
  refine hN.mono ?_
  rintro e w1 ⟨rfl, rfl⟩
  go_wp2_with (fail)
  go_ret
  exact ⟨rfl, bl_alloc (Below.refl _ _) _⟩
theorem due_none (a : Option Addr) (u : Int) (w : World) (h : NoneQ w a) : Calls Try.prog 17 #[.pointer a, .int .i64 u] w fun e w' => e = .returned (.tuple #[.slice none 0 0, .int .i64 1]) ∧ w = w' := by
  have hN := h _ (Below.refl _ _)
  go_enter Try.func17, Try.ntmps17
  go_wp2_with (fail)
  refine hN.mono ?_
  rintro e w1 ⟨rfl, rfl⟩
  go_wp2_with (fail)
  refine bodyPost_ret (v := .tuple #[.slice none 0 0, .int .i64 1]) (by simp only [results, Try.results17]; go_simp) rfl ?_
  exact ⟨rfl, rfl⟩
theorem next_none (a : Option Addr) (w : World) (h : NoneQ w a) : Calls Try.prog 21 #[.pointer a] w fun e w' => e = .returned (.tuple #[.agg #[.int .i64 0, .string ⟨#[]⟩, .string ⟨#[]⟩], .bool false]) ∧ Below w.heap.size w w' := by
  have hN := h _ (bl_alloc (Below.refl _ _) (.cells #[.int .i64 0, .string ⟨#[]⟩, .string ⟨#[]⟩] 23))
  go_enter Try.func21, Try.ntmps21
  go_wp2_with (fail)
  refine hN.mono ?_
  rintro e w1 ⟨rfl, rfl⟩
  go_wp2_with (fail)
  refine bodyPost_ret (v := .tuple #[.agg #[.int .i64 0, .string ⟨#[]⟩, .string ⟨#[]⟩], .bool false]) (by simp only [results, Try.results21]; go_simp) rfl ?_
  exact ⟨rfl, bl_alloc (Below.refl _ _) _⟩
theorem list_none (a : Option Addr) (w : World) (h : NoneQ w a) : Calls Try.prog 19 #[.pointer a] w fun e w' => e = .returned (.slice none 0 0) ∧ w = w' := by
  have hN := h _ (Below.refl _ _)
  go_enter Try.func19, Try.ntmps19
  go_wp2_with (fail)
  refine hN.mono ?_
  rintro e w1 ⟨rfl, rfl⟩
  go_wp2_with (fail)
  go_ret
  exact ⟨rfl, rfl⟩
theorem len_none (a : Option Addr) (w : World) (h : NoneQ w a) : Calls Try.prog 20 #[.pointer a] w fun e w' => e = .returned (.int .i64 0) ∧ w = w' := by
  have hN := h _ (Below.refl _ _)
  go_enter Try.func20, Try.ntmps20
  go_wp2_with (fail)
  refine hN.mono ?_
  rintro e w1 ⟨rfl, rfl⟩
  go_wp2_with (fail)
  go_ret
  exact ⟨rfl, rfl⟩
set_option maxRecDepth 100000 in
set_option maxHeartbeats 4000000 in
theorem none_walk (t : Int) (k s : ByteArray) (W : World) :
    Calls Try.prog 9 #[.agg #[.int .i64 t, .string k, .string s]] W fun e w' => e = .returned (.bool true) ∧ Below W.heap.size W w' := by
  go_enter Try.func9, Try.ntmps9
  go_wp2_with (fail)
  have hbl : Below W.heap.size W ((W.alloc (Obj.cells #[.int .i64 t, .string k, .string s] 23)).alloc (Obj.cells #[.slice none 0 0, .nilFunc, .nilFunc, .map none] 58)) := bl_alloc (bl_alloc (Below.refl _ _) _) _
  have c0 : ((W.alloc (Obj.cells #[.int .i64 t, .string k, .string s] 23)).alloc (Obj.cells #[.slice none 0 0, .nilFunc, .nilFunc, .map none] 58)).cell? ⟨W.heap.size, 0, none⟩ = some (.int .i64 t) := by go_keep
  have c1 : ((W.alloc (Obj.cells #[.int .i64 t, .string k, .string s] 23)).alloc (Obj.cells #[.slice none 0 0, .nilFunc, .nilFunc, .map none] 58)).cell? ⟨W.heap.size, 1, none⟩ = some (.string k) := by go_keep
  have c2 : ((W.alloc (Obj.cells #[.int .i64 t, .string k, .string s] 23)).alloc (Obj.cells #[.slice none 0 0, .nilFunc, .nilFunc, .map none] 58)).cell? ⟨W.heap.size, 2, none⟩ = some (.string s) := by go_keep
  have hz : ((W.alloc (Obj.cells #[.int .i64 t, .string k, .string s] 23)).alloc (Obj.cells #[.slice none 0 0, .nilFunc, .nilFunc, .map none] 58)).cell? ⟨W.heap.size + 1, 3, none⟩ = some (.map none) := by go_keep
  have l0 : W.heap.size < ((W.alloc (Obj.cells #[.int .i64 t, .string k, .string s] 23)).alloc (Obj.cells #[.slice none 0 0, .nilFunc, .nilFunc, .map none] 58)).heap.size := by simp; omega
  generalize ((W.alloc (Obj.cells #[.int .i64 t, .string k, .string s] 23)).alloc (Obj.cells #[.slice none 0 0, .nilFunc, .nilFunc, .map none] 58)) = w0 at *
  have N0 : NoneQ w0 none := noneQ_nil _
  have N1 : NoneQ w0 (some ⟨W.heap.size + 1, 0, none⟩) := noneQ_zero _ _ hz
  have hbw0 : Below w0.heap.size w0 w0 := Below.refl _ _
  clear hz
  refine wp_loop_rounds 3 ?_
  rw [rounds_succ]
  go_wp2_with (fail)
  refine (due_none none t w0 (N0.below hbw0)).mono ?_
  rintro e _ ⟨rfl, rfl⟩
  go_wp2_with (fail)
  refine (next_none none w0 (N0.below hbw0)).mono ?_
  rintro e a0 ⟨rfl, hba0⟩
  have hbA0 := bl_then hbw0 (bl_alloc hba0 (.cells #[.int .i64 0, .string ⟨#[]⟩, .string ⟨#[]⟩] 23))
  have l00 : W.heap.size < (a0.alloc (.cells #[.int .i64 0, .string ⟨#[]⟩, .string ⟨#[]⟩] 23)).heap.size := by have := hbA0.size; omega
  have p00 : (a0.alloc (.cells #[.int .i64 0, .string ⟨#[]⟩, .string ⟨#[]⟩] 23)).cell? ⟨W.heap.size, 0, none⟩ = some (.int .i64 t) := (hbA0.cell (p := ⟨W.heap.size, 0, none⟩) l0).trans c0
  have p01 : (a0.alloc (.cells #[.int .i64 0, .string ⟨#[]⟩, .string ⟨#[]⟩] 23)).cell? ⟨W.heap.size, 1, none⟩ = some (.string k) := (hbA0.cell (p := ⟨W.heap.size, 1, none⟩) l0).trans c1
  have p02 : (a0.alloc (.cells #[.int .i64 0, .string ⟨#[]⟩, .string ⟨#[]⟩] 23)).cell? ⟨W.heap.size, 2, none⟩ = some (.string s) := (hbA0.cell (p := ⟨W.heap.size, 2, none⟩) l0).trans c2
  have z00 : (a0.alloc (.cells #[.int .i64 0, .string ⟨#[]⟩, .string ⟨#[]⟩] 23)).cell? ⟨a0.heap.size, 0, none⟩ = some (.int .i64 0) := by go_keep
  have z01 : (a0.alloc (.cells #[.int .i64 0, .string ⟨#[]⟩, .string ⟨#[]⟩] 23)).cell? ⟨a0.heap.size, 1, none⟩ = some (.string ⟨#[]⟩) := by go_keep
  have z02 : (a0.alloc (.cells #[.int .i64 0, .string ⟨#[]⟩, .string ⟨#[]⟩] 23)).cell? ⟨a0.heap.size, 2, none⟩ = some (.string ⟨#[]⟩) := by go_keep
  have z0l : a0.heap.size < (a0.alloc (.cells #[.int .i64 0, .string ⟨#[]⟩, .string ⟨#[]⟩] 23)).heap.size := by simp
  go_wp2_with (fail)
  refine (put_none none ⟨t, k, s⟩ _ (N0.below hbA0)).mono ?_
  rintro e b0 ⟨rfl, hbb0⟩
  have hbB0 := bl_then hbA0 hbb0
  have hsb0 := hbb0.size
  have m00 : W.heap.size < b0.heap.size := by omega
  have q00 : b0.cell? ⟨W.heap.size, 0, none⟩ = some (.int .i64 t) := (hbb0.cell (p := ⟨W.heap.size, 0, none⟩) l00).trans p00
  have q01 : b0.cell? ⟨W.heap.size, 1, none⟩ = some (.string k) := (hbb0.cell (p := ⟨W.heap.size, 1, none⟩) l00).trans p01
  have q02 : b0.cell? ⟨W.heap.size, 2, none⟩ = some (.string s) := (hbb0.cell (p := ⟨W.heap.size, 2, none⟩) l00).trans p02
  go_wp2_with (fail)
  refine (drop_none none ⟨t, k, s⟩ _ (N0.below hbB0)).mono ?_
  rintro e d0 ⟨rfl, hbd0⟩
  have hbD0 := bl_then hbB0 hbd0
  have hsd0 := hbd0.size
  have hbz0 := bl_then hbb0 hbd0
  have y00 : d0.cell? ⟨a0.heap.size, 0, none⟩ = some (.int .i64 0) := (hbz0.cell (p := ⟨a0.heap.size, 0, none⟩) z0l).trans z00
  have y01 : d0.cell? ⟨a0.heap.size, 1, none⟩ = some (.string ⟨#[]⟩) := (hbz0.cell (p := ⟨a0.heap.size, 1, none⟩) z0l).trans z01
  have y02 : d0.cell? ⟨a0.heap.size, 2, none⟩ = some (.string ⟨#[]⟩) := (hbz0.cell (p := ⟨a0.heap.size, 2, none⟩) z0l).trans z02
  have y0l : a0.heap.size < d0.heap.size := by omega
  have m01 : W.heap.size < d0.heap.size := by omega
  go_wp2_with (fail)
  refine (list_none none _ (N0.below hbD0)).mono ?_
  rintro e _ ⟨rfl, rfl⟩
  go_wp2_with (fail)
  refine (len_none none _ (N0.below hbD0)).mono ?_
  rintro e _ ⟨rfl, rfl⟩
  have o00 : d0.cell? ⟨W.heap.size, 0, none⟩ = some (.int .i64 t) := (hbd0.cell (p := ⟨W.heap.size, 0, none⟩) m00).trans q00
  go_wp2_with (fail)
  have hbd0' : Below w0.heap.size w0 d0 := hbD0
  rw [rounds_succ]
  go_wp2_with (fail)
  refine (due_none (some ⟨W.heap.size + 1, 0, none⟩) t d0 (N1.below hbD0)).mono ?_
  rintro e _ ⟨rfl, rfl⟩
  go_wp2_with (fail)
  refine (next_none (some ⟨W.heap.size + 1, 0, none⟩) d0 (N1.below hbD0)).mono ?_
  rintro e a1 ⟨rfl, hba1⟩
  have hbA1 := bl_then hbD0 (bl_alloc hba1 (.cells #[.int .i64 0, .string ⟨#[]⟩, .string ⟨#[]⟩] 23))
  have l10 : W.heap.size < (a1.alloc (.cells #[.int .i64 0, .string ⟨#[]⟩, .string ⟨#[]⟩] 23)).heap.size := by have := hbA1.size; omega
  have p10 : (a1.alloc (.cells #[.int .i64 0, .string ⟨#[]⟩, .string ⟨#[]⟩] 23)).cell? ⟨W.heap.size, 0, none⟩ = some (.int .i64 t) := (hbA1.cell (p := ⟨W.heap.size, 0, none⟩) l0).trans c0
  have p11 : (a1.alloc (.cells #[.int .i64 0, .string ⟨#[]⟩, .string ⟨#[]⟩] 23)).cell? ⟨W.heap.size, 1, none⟩ = some (.string k) := (hbA1.cell (p := ⟨W.heap.size, 1, none⟩) l0).trans c1
  have p12 : (a1.alloc (.cells #[.int .i64 0, .string ⟨#[]⟩, .string ⟨#[]⟩] 23)).cell? ⟨W.heap.size, 2, none⟩ = some (.string s) := (hbA1.cell (p := ⟨W.heap.size, 2, none⟩) l0).trans c2
  have z10 : (a1.alloc (.cells #[.int .i64 0, .string ⟨#[]⟩, .string ⟨#[]⟩] 23)).cell? ⟨a1.heap.size, 0, none⟩ = some (.int .i64 0) := by go_keep
  have z11 : (a1.alloc (.cells #[.int .i64 0, .string ⟨#[]⟩, .string ⟨#[]⟩] 23)).cell? ⟨a1.heap.size, 1, none⟩ = some (.string ⟨#[]⟩) := by go_keep
  have z12 : (a1.alloc (.cells #[.int .i64 0, .string ⟨#[]⟩, .string ⟨#[]⟩] 23)).cell? ⟨a1.heap.size, 2, none⟩ = some (.string ⟨#[]⟩) := by go_keep
  have z1l : a1.heap.size < (a1.alloc (.cells #[.int .i64 0, .string ⟨#[]⟩, .string ⟨#[]⟩] 23)).heap.size := by simp
  go_wp2_with (fail)
  refine (put_none (some ⟨W.heap.size + 1, 0, none⟩) ⟨t, k, s⟩ _ (N1.below hbA1)).mono ?_
  rintro e b1 ⟨rfl, hbb1⟩
  have hbB1 := bl_then hbA1 hbb1
  have hsb1 := hbb1.size
  have m10 : W.heap.size < b1.heap.size := by omega
  have q10 : b1.cell? ⟨W.heap.size, 0, none⟩ = some (.int .i64 t) := (hbb1.cell (p := ⟨W.heap.size, 0, none⟩) l10).trans p10
  have q11 : b1.cell? ⟨W.heap.size, 1, none⟩ = some (.string k) := (hbb1.cell (p := ⟨W.heap.size, 1, none⟩) l10).trans p11
  have q12 : b1.cell? ⟨W.heap.size, 2, none⟩ = some (.string s) := (hbb1.cell (p := ⟨W.heap.size, 2, none⟩) l10).trans p12
  go_wp2_with (fail)
  refine (drop_none (some ⟨W.heap.size + 1, 0, none⟩) ⟨t, k, s⟩ _ (N1.below hbB1)).mono ?_
  rintro e d1 ⟨rfl, hbd1⟩
  have hbD1 := bl_then hbB1 hbd1
  have hsd1 := hbd1.size
  have hbz1 := bl_then hbb1 hbd1
  have y10 : d1.cell? ⟨a1.heap.size, 0, none⟩ = some (.int .i64 0) := (hbz1.cell (p := ⟨a1.heap.size, 0, none⟩) z1l).trans z10
  have y11 : d1.cell? ⟨a1.heap.size, 1, none⟩ = some (.string ⟨#[]⟩) := (hbz1.cell (p := ⟨a1.heap.size, 1, none⟩) z1l).trans z11
  have y12 : d1.cell? ⟨a1.heap.size, 2, none⟩ = some (.string ⟨#[]⟩) := (hbz1.cell (p := ⟨a1.heap.size, 2, none⟩) z1l).trans z12
  have y1l : a1.heap.size < d1.heap.size := by omega
  have m11 : W.heap.size < d1.heap.size := by omega
  go_wp2_with (fail)
  refine (list_none (some ⟨W.heap.size + 1, 0, none⟩) _ (N1.below hbD1)).mono ?_
  rintro e _ ⟨rfl, rfl⟩
  go_wp2_with (fail)
  refine (len_none (some ⟨W.heap.size + 1, 0, none⟩) _ (N1.below hbD1)).mono ?_
  rintro e _ ⟨rfl, rfl⟩
  have o10 : d1.cell? ⟨W.heap.size, 0, none⟩ = some (.int .i64 t) := (hbd1.cell (p := ⟨W.heap.size, 0, none⟩) m10).trans q10
  go_wp2_with (fail)
  rw [rounds_succ]
  go_wp2_with (fail)
  refine (awake_any _).mono ?_
  rintro e w9 ⟨rfl, hb9⟩
  go_wp2_with (fail)
  go_ret
  exact ⟨rfl, bl_then (bl_then hbl hbD1) hb9⟩
end Go.Proofs.Ytlmnnbmihimedaa
