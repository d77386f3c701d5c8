/- Contract of model.out. Conditions: as each theorem states them. -/
import Derived.Test.YtfojblbnhapedaaGreatDoorF4
import Derived.StillTailTactics
import Derived.Test.YtfojblbnhapedaaGreatDoorQ0
namespace Go.Proofs.YtfojblbnhapedaaGreatDoor
open Go.RowKit Go.Maps
set_option linter.unusedVariables false
set_option linter.unusedSimpArgs false

/-- What is told of a window, as a value. -/
def outV (p : Pl) (s : ByteArray) (again : Bool) : Value := .agg #[.int .i64 p.op, .string p.key, .int .i64 p.f, .int .i64 p.t, .string s, .bool again]
set_option maxRecDepth 100000 in
set_option maxHeartbeats 8000000 in
theorem out_any (B : Lo) (M : Md) (x : Pn) (again : Bool) (s : ByteArray) (w : World) (h : MdAt w B M) (hx : x ∈ M.L) (i : Nat) (hi : x.p.op = (i : Int)) (hil : i < M.j.ops.length)
    (HS : ∀ W, Below w.heap.size w W → Calls Tryz.prog 75 #[.int .i64 (M.j.ops.getD i zeroP).agg, rwV x.r] W fun e w' => e = .returned (.string s) ∧ Below W.heap.size W w') :
    Calls Tryz.prog 45 #[ptrV B.bm, plV x.p, .bool again] w fun e w' => e = .returned (outV x.p s again) ∧ Below w.heap.size w w' := by
  have hok := h.map.1 (x.p, x.r) (List.mem_map.2 ⟨x, hx, rfl⟩)
  have hb : Below w.heap.size w ((w.alloc (Obj.cells #[.int .i64 x.p.op, .string x.p.key, .int .i64 x.p.f, .int .i64 x.p.t] 105)).alloc (Obj.cells #[.int .i64 0, .string ⟨#[]⟩, .int .i64 0, .int .i64 0, .string ⟨#[]⟩, .bool false] 56)) := bl_alloc (bl_alloc (Below.refl _ _) _) _
  have hm := h.below hb
  have HM := Lib.hid hm
  have HBD := Lib.hid hb
  have HS := Lib.hid HS
  have HOK := Lib.hid hok
  have HX := Lib.hid hx
  have hn0 := heap_alloc_new w (Obj.cells #[.int .i64 x.p.op, .string x.p.key, .int .i64 x.p.f, .int .i64 x.p.t] 105)
  have hs1 : (w.alloc (Obj.cells #[.int .i64 x.p.op, .string x.p.key, .int .i64 x.p.f, .int .i64 x.p.t] 105)).heap.size = w.heap.size + 1 := by simp
  have hn1 := heap_alloc_new (w.alloc (Obj.cells #[.int .i64 x.p.op, .string x.p.key, .int .i64 x.p.f, .int .i64 x.p.t] 105)) (Obj.cells #[.int .i64 0, .string ⟨#[]⟩, .int .i64 0, .int .i64 0, .string ⟨#[]⟩, .bool false] 56)
  rw [hs1] at hn1
  have hn2 := ((Below.refl _ _).alloc (Nat.le_refl _) (Obj.cells #[.int .i64 0, .string ⟨#[]⟩, .int .i64 0, .int .i64 0, .string ⟨#[]⟩, .bool false] 56)).block _ (by rw [hs1]; omega) |>.trans hn0
  have HN1 := Lib.hid hn1
  have HN2 := Lib.hid hn2
  obtain ⟨⟨op, key, f, t⟩, r, vs⟩ := x
  dsimp only at *
  subst hi
  unfold ptrV plV outV
  dsimp only
  clear h hok hb hm hx hn0 hs1 hn1 hn2
  go_enter Tryz.func45, Tryz.ntmps45
  go_wp2_with (fail)
  generalize ((w.alloc (Obj.cells #[.int .i64 (i : Int), .string key, .int .i64 f, .int .i64 t] 105)).alloc (Obj.cells #[.int .i64 0, .string ⟨#[]⟩, .int .i64 0, .int .i64 0, .string ⟨#[]⟩, .bool false] 56)) = W at *
  have hm := HM.out
  have hlk : ∀ X : Ext W, (Instr.lookup 85 (.map (some B.bo)) (.agg #[.int .i64 i, .string key, .int .i64 f, .int .i64 t]) false).run Tryz.prog X.val = .ok (.slice (some ⟨r.b, 0, none⟩) r.n r.c) X.val :=
    fun X => (hm.below X.bl).map.look HOK.out (rwV r) (.inl ⟨(_, r), List.mem_map.2 ⟨_, HX.out, rfl⟩, rfl, rfl⟩)
  have HC : Hid (∀ X : Ext W, Calls Tryz.prog 75 #[.int .i64 (M.j.ops.getD i zeroP).agg, rwV r] X.val fun e w' => e = .returned (.string s) ∧ ∃ y : Ext W, w' = y.val) := Lib.hid (fun X => ext_calls (HS.out X.val (bl_then HBD.out X.bl)))
  obtain ⟨b, off, hA, hbl, hcs⟩ := hm.ops.1 (by omega)
  obtain ⟨_, c1, _, _, _⟩ := hcs i hil
  have m4 := hm.c 4
  have m6 := hm.c 6
  have hl := hm.lt
  simp only [mdcells, List.getElem?_toArray, List.getElem?_cons_zero, List.getElem?_cons_succ] at m4 m6
  rw [hA] at m4
  have h1 : (0 : Int) ≤ (i : Int) := by omega
  have h2 : (i : Int) < (M.j.ops.length : Int) := by omega
  have x0 := cell_of HN2.out 0
  have x1 := cell_of HN2.out 1
  have x2 := cell_of HN2.out 2
  have x3 := cell_of HN2.out 3
  have xl := (Array.getElem?_eq_some_iff.1 HN2.out).1
  simp only [List.getElem?_toArray, List.getElem?_cons_zero, List.getElem?_cons_succ] at x0 x1 x2 x3
  obtain ⟨n, hn⟩ : ∃ n, M.j.ops.length = n := ⟨_, rfl⟩
  obtain ⟨ag, hag⟩ : ∃ n, (M.j.ops.getD i zeroP).agg = n := ⟨_, rfl⟩
  rw [hag] at HC c1
  rw [hn] at m4 h2
  unfold rwV at HC
  have hv : (Value.slice M.j.A n M.j.c) = .slice (some ⟨b, off, none⟩) n M.j.c := by rw [hA]
  replace m4 := ext_cell m4
  replace m6 := ext_cell m6
  replace x0 := ext_cell x0
  replace x1 := ext_cell x1
  replace x2 := ext_cell x2
  replace x3 := ext_cell x3
  replace c1 := ext_cell c1
  clear hm hcs hA HS hil hv
  refine wp_region_quiet_tail (C := fun w' => ∃ x : Ext W, w' = x.val) 25 (by kernel_rfl) (by kernel_rfl) ⟨⟨W.drew, (Below.refl _ _).drew⟩, rfl⟩ ?_
  simp only [List.take_succ_cons, List.take_zero, List.drop_succ_cons, List.drop_zero]
  repeat (go_big_quiet_step ((go_at_call 75; exact HC.out _)))
  refine wpQuiet_nil ?_
  rintro w3 ⟨⟨_, hb3⟩, rfl⟩
  have hn3 := (hb3.block _ (Array.getElem?_eq_some_iff.1 HN1.out).1).trans HN1.out
  have f0 := froz_of hn3 0
  have f1 := froz_of hn3 1
  have f2 := froz_of hn3 2
  have f3 := froz_of hn3 3
  have f4 := froz_of hn3 4
  have f5 := froz_of hn3 5
  have z0 := cell_of hn3 0
  have z1 := cell_of hn3 1
  have z2 := cell_of hn3 2
  have z3 := cell_of hn3 3
  have z4 := cell_of hn3 4
  have z5 := cell_of hn3 5
  simp only [List.getElem?_toArray, List.getElem?_cons_zero, List.getElem?_cons_succ] at z0 z1 z2 z3 z4 z5
  have zl := (Array.getElem?_eq_some_iff.1 hn3).1
  have HB3 := Lib.hid (bl_then HBD.out hb3)
  have HN3 := Lib.hid hn3
  clear hb3 hn3 m4 m6 x0 x1 x2 x3 c1 hlk HC
  go_wp2_with (fail)
  have HN9 := set_heap (i := 5) (v := .bool again) (set_heap (i := 4) (v := .string s) (set_heap (i := 3) (v := .int .i64 t) (set_heap (i := 2) (v := .int .i64 f) (set_heap (i := 1) (v := .string key) (set_heap (i := 0) (v := .int .i64 (i : Int)) HN3.out)))))
  simp only [List.setIfInBounds_toArray, List.set_cons_zero, List.set_cons_succ] at HN9
  have HB9 := Lib.hid ((((((HB3.out.setCell (p := ⟨w.heap.size + 1, 0, none⟩) (by dsimp only; omega) (.int .i64 (i : Int))).setCell (p := ⟨w.heap.size + 1, 1, none⟩) (by dsimp only; omega) (.string key)).setCell (p := ⟨w.heap.size + 1, 2, none⟩) (by dsimp only; omega) (.int .i64 f)).setCell (p := ⟨w.heap.size + 1, 3, none⟩) (by dsimp only; omega) (.int .i64 t)).setCell (p := ⟨w.heap.size + 1, 4, none⟩) (by dsimp only; omega) (.string s)).setCell (p := ⟨w.heap.size + 1, 5, none⟩) (by dsimp only; omega) (.bool again))
  clear f0 f1 f2 f3 f4 f5 z0 z1 z2 z3 z4 z5 zl
  generalize ((((((w3.setCell ⟨w.heap.size + 1, 0, none⟩ (.int .i64 (i : Int))).setCell ⟨w.heap.size + 1, 1, none⟩ (.string key)).setCell ⟨w.heap.size + 1, 2, none⟩ (.int .i64 f)).setCell ⟨w.heap.size + 1, 3, none⟩ (.int .i64 t)).setCell ⟨w.heap.size + 1, 4, none⟩ (.string s)).setCell ⟨w.heap.size + 1, 5, none⟩ (.bool again)) = w9 at *
  have y0 := cell_of HN9 0
  have y1 := cell_of HN9 1
  have y2 := cell_of HN9 2
  have y3 := cell_of HN9 3
  have y4 := cell_of HN9 4
  have y5 := cell_of HN9 5
  simp only [List.getElem?_toArray, List.getElem?_cons_zero, List.getElem?_cons_succ] at y0 y1 y2 y3 y4 y5
  have yl := (Array.getElem?_eq_some_iff.1 HN9).1
  exact bodyPost_ret (v := .agg #[.int .i64 (i : Int), .string key, .int .i64 f, .int .i64 t, .string s, .bool again]) (by simp [results, Tryz.results45, go_sem, y0, y1, y2, y3, y4, y5]) rfl ⟨rfl, HB9.out⟩
end Go.Proofs.YtfojblbnhapedaaGreatDoor
