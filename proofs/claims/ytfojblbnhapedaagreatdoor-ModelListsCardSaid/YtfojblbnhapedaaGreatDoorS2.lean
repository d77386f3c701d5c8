/- The comparison by which places are sorted. Conditions: as each theorem states them. -/
import Derived.Test.YtfojblbnhapedaaGreatDoorS1
namespace Go.Proofs.YtfojblbnhapedaaGreatDoor
open Go.RowKit Go.Sort Go.Shelf Go.Lib
set_option linter.unusedVariables false
set_option linter.unusedSimpArgs false

theorem Gr.below {w w' : World} (h : Gr w w') : Below w.heap.size w w' := by
  obtain ⟨q, os, rfl⟩ := h
  refine ⟨rfl, rfl, rfl, ?_, fun i hi => ?_⟩
  · show w.heap.size ≤ (w.heap ++ os).size
    rw [Array.size_append]; omega
  · show (w.heap ++ os)[i]? = _
    rw [Array.getElem?_append_left hi]
/-- The worlds that have drawn and laid blocks behind. -/
def GrT (w : World) : Type := { w' : World // Gr w w' }
instance (w : World) : Nonempty (GrT w) := ⟨⟨w, Gr.refl _⟩⟩
theorem gr_cell {w : World} {p : Addr} {v : Value} (h : w.cell? p = some v) : ∀ x : GrT w, x.val.cell? p = some v := fun x => (x.property.below.cell (World.block_lt_of_cell? w p h)).trans h
theorem gr_calls {w : World} {f : FuncId} {args : Array Value} {x : GrT w} {v : Value} (h : Calls Tryz.prog f args x.val fun e w' => e = .returned v ∧ x.val = w') :
    Calls Tryz.prog f args x.val fun e w'' => e = .returned v ∧ ∃ y : GrT w, w'' = y.val :=
  h.mono fun _ _ ⟨he, hb⟩ => ⟨he, x, hb.symm⟩
/-- How places stand: by To, operator, key, From. -/
def cmpP (x y : Pl) : Int := orI (cmpI x.t y.t) (cmpI x.op y.op) (cmpS x.key y.key) (cmpI x.f y.f)
set_option maxRecDepth 100000 in
set_option maxHeartbeats 8000000 in
theorem cmpp_gr (o1 f1 t1 o2 f2 t2 : Int) (k1 k2 : ByteArray) (w : World) (r : Int) (hr : cmpP ⟨o1, k1, f1, t1⟩ ⟨o2, k2, f2, t2⟩ = r) :
    Calls Tryz.prog 67 #[.agg #[.int .i64 o1, .string k1, .int .i64 f1, .int .i64 t1], .agg #[.int .i64 o2, .string k2, .int .i64 f2, .int .i64 t2]] w fun e w' => e = .returned (.int .i64 r) ∧ Gr w w' := by
  subst hr
  unfold cmpP
  dsimp only
  have hn1 := heap_alloc_new (w.alloc (Obj.cells #[.int .i64 o1, .string k1, .int .i64 f1, .int .i64 t1] 105)) (Obj.cells #[.int .i64 o2, .string k2, .int .i64 f2, .int .i64 t2] 105)
  have hn0 := heap_alloc_new w (Obj.cells #[.int .i64 o1, .string k1, .int .i64 f1, .int .i64 t1] 105)
  have hs1 : (w.alloc (Obj.cells #[.int .i64 o1, .string k1, .int .i64 f1, .int .i64 t1] 105)).heap.size = w.heap.size + 1 := by simp
  rw [hs1] at hn1
  have hn2 := ((Below.refl _ _).alloc (Nat.le_refl _) (Obj.cells #[.int .i64 o2, .string k2, .int .i64 f2, .int .i64 t2] 105)).block _ (by rw [hs1]; omega) |>.trans hn0
  have HG : Hid (Gr w ((w.alloc (Obj.cells #[.int .i64 o1, .string k1, .int .i64 f1, .int .i64 t1] 105)).alloc (Obj.cells #[.int .i64 o2, .string k2, .int .i64 f2, .int .i64 t2] 105))) := Lib.hid (((Gr.refl w).alloc _).alloc _)
  have HN1 := Lib.hid hn1
  have HN2 := Lib.hid hn2
  clear hn0 hn1 hn2 hs1
  go_enter Tryz.func67, Tryz.ntmps67
  go_wp2_with (fail)
  generalize ((w.alloc (Obj.cells #[.int .i64 o1, .string k1, .int .i64 f1, .int .i64 t1] 105)).alloc (Obj.cells #[.int .i64 o2, .string k2, .int .i64 f2, .int .i64 t2] 105)) = W at *
  have a0 := gr_cell (v := .int .i64 o1) (cell_of HN2.out 0)
  have a1 := gr_cell (v := .string k1) (cell_of HN2.out 1)
  have a2 := gr_cell (v := .int .i64 f1) (cell_of HN2.out 2)
  have a3 := gr_cell (v := .int .i64 t1) (cell_of HN2.out 3)
  have b0 := gr_cell (v := .int .i64 o2) (cell_of HN1.out 0)
  have b1 := gr_cell (v := .string k2) (cell_of HN1.out 1)
  have b2 := gr_cell (v := .int .i64 f2) (cell_of HN1.out 2)
  have b3 := gr_cell (v := .int .i64 t2) (cell_of HN1.out 3)
  have al := (Array.getElem?_eq_some_iff.1 HN2.out).1
  have bl := (Array.getElem?_eq_some_iff.1 HN1.out).1
  try simp only [List.getElem?_toArray, List.getElem?_cons_zero, List.getElem?_cons_succ] at a0 a1 a2 a3 b0 b1 b2 b3
  refine wp_region_quiet_tail (C := fun w' => ∃ x : GrT W, w' = x.val) 24 (by kernel_rfl) (by kernel_rfl) ⟨⟨W.drew, (Gr.refl _).drew⟩, rfl⟩ ?_
  simp only [List.take_succ_cons, List.take_zero, List.drop_succ_cons, List.drop_zero]
  repeat (go_big_quiet_step (first | (go_at_call 69; exact gr_calls (compare_64 _ _ _)) | (go_at_call 70; exact gr_calls (compare_int _ _ _)) | (go_at_call 71; exact gr_calls (compare_str _ _ _))))
  refine wpQuiet_nil ?_
  rintro w3 ⟨⟨_, hg3⟩, rfl⟩
  have HG3 := Lib.hid (HG.out.trans hg3)
  clear a0 a1 a2 a3 b0 b1 b2 b3 hg3
  go_wp2_with (fail)
  refine (or_gr _ _ _ _ _ _ (cell_of (heap_alloc_new _ _) 0) (cell_of (heap_alloc_new _ _) 1) (cell_of (heap_alloc_new _ _) 2) (cell_of (heap_alloc_new _ _) 3)).mono ?_
  rintro e w4 ⟨rfl, hg4⟩
  have HG4 := Lib.hid ((HG3.out.alloc _).trans hg4)
  clear hg4
  go_wp2_with (fail)
  go_ret
  exact ⟨rfl, HG4.out⟩
end Go.Proofs.YtfojblbnhapedaaGreatDoor
