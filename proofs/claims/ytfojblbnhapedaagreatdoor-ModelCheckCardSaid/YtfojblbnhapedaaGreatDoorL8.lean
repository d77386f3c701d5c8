/- ModelCheck, walked. Conditions: as each theorem states them. Printed by mkL8.py. -/
import Derived.Test.YtfojblbnhapedaaGreatDoorL7
import Derived.Test.YtfojblbnhapedaaGreatDoorL5
import Derived.Test.YtfojblbnhapedaaGreatDoorR4
namespace Go.Proofs.YtfojblbnhapedaaGreatDoor
open Go.RowKit Go.Maps
set_option linter.unusedVariables false
set_option linter.unusedSimpArgs false

set_option maxRecDepth 100000 in
set_option maxHeartbeats 8000000 in
theorem mcheck_law (j : Jb) (e : Ev) (w : World) (hA : RdP w j.A j.ops) (hc : j.ops.length ≤ j.c) (hcb : j.c ≤ 9223372036854775807) (hkz : okN e.key) : Calls Tryz.prog 3 #[jbV j, evV e] w fun r w' => r = .returned (.bool true) ∧ Below w.heap.size w w' := by
  obtain ⟨gr, so, bo, la, l, A, c⟩ := j
  obtain ⟨k, src, t, key, v⟩ := e
  have hb := bl_alloc (bl_alloc (Below.refl w.heap.size w) (Obj.cells #[.int .i64 gr, .int .i64 so, .int .i64 bo, .int .i64 la, .slice A l.length c] 24)) (Obj.cells #[.int .i64 k, .int .i64 src, .int .i64 t, .string key, .int .i64 v] 26)
  have HB := Lib.hid hb
  have hn0 := heap_alloc_new w (Obj.cells #[.int .i64 gr, .int .i64 so, .int .i64 bo, .int .i64 la, .slice A l.length c] 24)
  have hn1 := heap_alloc_new (w.alloc (Obj.cells #[.int .i64 gr, .int .i64 so, .int .i64 bo, .int .i64 la, .slice A l.length c] 24)) (Obj.cells #[.int .i64 k, .int .i64 src, .int .i64 t, .string key, .int .i64 v] 26)
  have hs1 : (w.alloc (Obj.cells #[.int .i64 gr, .int .i64 so, .int .i64 bo, .int .i64 la, .slice A l.length c] 24)).heap.size = w.heap.size + 1 := by simp
  rw [hs1] at hn1
  have hn2 := ((Below.refl _ _).alloc (Nat.le_refl _) (Obj.cells #[.int .i64 k, .int .i64 src, .int .i64 t, .string key, .int .i64 v] 26)).block _ (by rw [hs1]; omega) |>.trans hn0
  have HX := Lib.hid hn2
  have HY := Lib.hid hn1
  have HRD0 : Hid (RdP ((w.alloc (Obj.cells #[.int .i64 gr, .int .i64 so, .int .i64 bo, .int .i64 la, .slice A l.length c] 24)).alloc (Obj.cells #[.int .i64 k, .int .i64 src, .int .i64 t, .string key, .int .i64 v] 26)) A l) := Lib.hid (hA.below hb)
  have HAW := Lib.hid awake_any
  clear hb hn0 hn1 hn2 hs1 hA
  by_cases h50 : (50 : Int) < (l.length : Int)
  · unfold jbV evV
    dsimp only
    go_enter Tryz.func3, Tryz.ntmps3
    go_wp2_with (fail)
    refine (HAW.out _).mono ?_
    rintro r w3 ⟨rfl, hb3⟩
    have HB3 := Lib.hid (bl_then HB.out hb3)
    clear hb3
    go_wp2_with (fail)
    go_ret
    exact ⟨rfl, HB3.out⟩
  by_cases hj : jobP ⟨gr, so, bo, la, l, A, c⟩
  · dsimp only at hc hcb hkz
    unfold jbV evV
    dsimp only
    have HN1 := Lib.hid (fun W (h : RdP W A l) => new_yes ⟨gr, so, bo, la, l, A, c⟩ W h hc hcb hj)
    have HN2 := Lib.hid (fun W (h : RdP W A l) => rnew_yes ⟨gr, so, bo, la, l, A, c⟩ W h hc hcb hj)
    unfold jbV at HN1 HN2
    dsimp only at HN1 HN2
    go_enter Tryz.func3, Tryz.ntmps3
    go_wp2_with (fail)
    refine (HN1.out _ HRD0.out).mono ?_
    rintro r w3 ⟨B, A', c', rfl, hb3, _⟩
    unfold ptrV
    have HB3 := Lib.hid (bl_then HB.out hb3)
    have HD3 := Lib.hid (HRD0.out.below hb3)
    have HX3 := Lib.hid ((hb3.block _ (Array.getElem?_eq_some_iff.1 HX.out).1).trans HX.out)
    have HY3 := Lib.hid ((hb3.block _ (Array.getElem?_eq_some_iff.1 HY.out).1).trans HY.out)
    clear hb3
    have x0 := cell_of HX3.out 0
    have x1 := cell_of HX3.out 1
    have x2 := cell_of HX3.out 2
    have x3 := cell_of HX3.out 3
    have x4 := cell_of HX3.out 4
    have xl := (Array.getElem?_eq_some_iff.1 HX3.out).1
    simp only [List.getElem?_toArray, List.getElem?_cons_zero, List.getElem?_cons_succ] at x0 x1 x2 x3 x4
    go_wp2_with (fail)
    refine (HN2.out _ HD3.out).mono ?_
    rintro r w4 ⟨v1, v2, rfl, ho1, ho2, hb4⟩
    obtain ⟨A1, c1, rfl, _⟩ := own_read ho1 (by decide)
    obtain ⟨A2, c2, rfl, _⟩ := own_read ho2 (by decide)
    have hba := bl_then hb4 (bl_alloc (Below.refl w4.heap.size w4) (Obj.cells #[.int .i64 gr, .int .i64 so, .int .i64 bo, .int .i64 la, .slice A l.length c, .int .i64 bo, .int .i64 (-1125899906842624), (.slice A1 so.toNat c1), (.slice A2 so.toNat c2), .slice none 0 0, .int .i64 0] 38))
    have HB5 := Lib.hid (bl_then HB3.out hba)
    have HD5 := Lib.hid (HD3.out.below hba)
    have HX5 := Lib.hid ((hba.block _ (Array.getElem?_eq_some_iff.1 HX3.out).1).trans HX3.out)
    have HY5 := Lib.hid ((hba.block _ (Array.getElem?_eq_some_iff.1 HY3.out).1).trans HY3.out)
    clear hb4 hba x0 x1 x2 x3 x4 xl ho1 ho2
    go_wp2_with (fail)
    generalize (w4.alloc (Obj.cells #[.int .i64 gr, .int .i64 so, .int .i64 bo, .int .i64 la, .slice A l.length c, .int .i64 bo, .int .i64 (-1125899906842624), (.slice A1 so.toNat c1), (.slice A2 so.toNat c2), .slice none 0 0, .int .i64 0] 38)) = W at *
    have HK1 := Lib.hid (fun x : Ext W => check_all ⟨gr, so, bo, la, l, A, c⟩ ⟨k, src, t, key, v⟩ x.val (HD5.out.below x.bl) hc hcb hkz)
    have HK2 := Lib.hid (fun x : Ext W => rchk_all ⟨gr, so, bo, la, l, A, c⟩ ⟨k, src, t, key, v⟩ x.val (HD5.out.below x.bl) hc hcb hkz)
    have HK3 := Lib.hid (fun x : Ext W => awake_any x.val)
    generalize (if evP ⟨gr, so, bo, la, l, A, c⟩ ⟨k, src, t, key, v⟩ then (0 : Int) else 2) = R at HK1 HK2
    unfold jbV evV at HK1 HK2
    dsimp only at HK1 HK2
    have x0 := ext_cell (cell_of HX5.out 0)
    have x1 := ext_cell (cell_of HX5.out 1)
    have x2 := ext_cell (cell_of HX5.out 2)
    have x3 := ext_cell (cell_of HX5.out 3)
    have x4 := ext_cell (cell_of HX5.out 4)
    have y0 := ext_cell (cell_of HY5.out 0)
    have y1 := ext_cell (cell_of HY5.out 1)
    have y2 := ext_cell (cell_of HY5.out 2)
    have y3 := ext_cell (cell_of HY5.out 3)
    have y4 := ext_cell (cell_of HY5.out 4)
    have xl := (Array.getElem?_eq_some_iff.1 HX5.out).1
    have yl := (Array.getElem?_eq_some_iff.1 HY5.out).1
    try simp only [List.getElem?_toArray, List.getElem?_cons_zero, List.getElem?_cons_succ] at x0 x1 x2 x3 x4 y0 y1 y2 y3 y4
    refine wp_region_ext (by kernel_rfl) (by kernel_rfl) ?_
    repeat (go_big_quiet_step (first | (go_at_call 16; exact ext_calls (HK1.out _)) | (go_at_call 17; exact ext_calls (HK2.out _)) | (go_at_call 13; exact ext_calls (HK3.out _))))
    refine wpQuiet_nil ?_
    rintro w8 ⟨⟨w9, hb9⟩, rfl⟩
    have HB9 := Lib.hid (bl_then HB5.out hb9)
    clear hb9
    go_wp2_with (fail)
    go_ret
    exact ⟨rfl, HB9.out⟩
  · dsimp only at hc hcb hkz
    unfold jbV evV
    dsimp only
    have HN1 := Lib.hid (fun W (h : RdP W A l) => new_no ⟨gr, so, bo, la, l, A, c⟩ W h hc hcb hj)
    have HN2 := Lib.hid (fun W (h : RdP W A l) => rnew_no ⟨gr, so, bo, la, l, A, c⟩ W h hc hcb hj)
    unfold jbV at HN1 HN2
    dsimp only at HN1 HN2
    go_enter Tryz.func3, Tryz.ntmps3
    go_wp2_with (fail)
    refine (HN1.out _ HRD0.out).mono ?_
    rintro r w3 ⟨rfl, hb3⟩
    have HB3 := Lib.hid (bl_then HB.out hb3)
    have HD3 := Lib.hid (HRD0.out.below hb3)
    have HX3 := Lib.hid ((hb3.block _ (Array.getElem?_eq_some_iff.1 HX.out).1).trans HX.out)
    have HY3 := Lib.hid ((hb3.block _ (Array.getElem?_eq_some_iff.1 HY.out).1).trans HY.out)
    clear hb3
    have x0 := cell_of HX3.out 0
    have x1 := cell_of HX3.out 1
    have x2 := cell_of HX3.out 2
    have x3 := cell_of HX3.out 3
    have x4 := cell_of HX3.out 4
    have xl := (Array.getElem?_eq_some_iff.1 HX3.out).1
    simp only [List.getElem?_toArray, List.getElem?_cons_zero, List.getElem?_cons_succ] at x0 x1 x2 x3 x4
    go_wp2_with (fail)
    refine (HN2.out _ HD3.out).mono ?_
    rintro r w4 ⟨rfl, hb4⟩
    have hba := bl_then hb4 (bl_alloc (Below.refl w4.heap.size w4) (Obj.cells #[.int .i64 0, .int .i64 0, .int .i64 0, .int .i64 0, .slice none 0 0, .int .i64 0, .int .i64 0, .slice none 0 0, .slice none 0 0, .slice none 0 0, .int .i64 0] 38))
    have HB5 := Lib.hid (bl_then HB3.out hba)
    have HD5 := Lib.hid (HD3.out.below hba)
    have HX5 := Lib.hid ((hba.block _ (Array.getElem?_eq_some_iff.1 HX3.out).1).trans HX3.out)
    have HY5 := Lib.hid ((hba.block _ (Array.getElem?_eq_some_iff.1 HY3.out).1).trans HY3.out)
    clear hb4 hba x0 x1 x2 x3 x4 xl 
    go_wp2_with (fail)
    generalize (w4.alloc (Obj.cells #[.int .i64 0, .int .i64 0, .int .i64 0, .int .i64 0, .slice none 0 0, .int .i64 0, .int .i64 0, .slice none 0 0, .slice none 0 0, .slice none 0 0, .int .i64 0] 38)) = W at *
    have HK1 := Lib.hid (fun x : Ext W => check_all ⟨gr, so, bo, la, l, A, c⟩ ⟨k, src, t, key, v⟩ x.val (HD5.out.below x.bl) hc hcb hkz)
    have HK2 := Lib.hid (fun x : Ext W => rchk_all ⟨gr, so, bo, la, l, A, c⟩ ⟨k, src, t, key, v⟩ x.val (HD5.out.below x.bl) hc hcb hkz)
    have HK3 := Lib.hid (fun x : Ext W => awake_any x.val)
    generalize (if evP ⟨gr, so, bo, la, l, A, c⟩ ⟨k, src, t, key, v⟩ then (0 : Int) else 2) = R at HK1 HK2
    unfold jbV evV at HK1 HK2
    dsimp only at HK1 HK2
    have x0 := ext_cell (cell_of HX5.out 0)
    have x1 := ext_cell (cell_of HX5.out 1)
    have x2 := ext_cell (cell_of HX5.out 2)
    have x3 := ext_cell (cell_of HX5.out 3)
    have x4 := ext_cell (cell_of HX5.out 4)
    have y0 := ext_cell (cell_of HY5.out 0)
    have y1 := ext_cell (cell_of HY5.out 1)
    have y2 := ext_cell (cell_of HY5.out 2)
    have y3 := ext_cell (cell_of HY5.out 3)
    have y4 := ext_cell (cell_of HY5.out 4)
    have xl := (Array.getElem?_eq_some_iff.1 HX5.out).1
    have yl := (Array.getElem?_eq_some_iff.1 HY5.out).1
    try simp only [List.getElem?_toArray, List.getElem?_cons_zero, List.getElem?_cons_succ] at x0 x1 x2 x3 x4 y0 y1 y2 y3 y4
    refine wp_region_ext (by kernel_rfl) (by kernel_rfl) ?_
    repeat (go_big_quiet_step (first | (go_at_call 16; exact ext_calls (HK1.out _)) | (go_at_call 17; exact ext_calls (HK2.out _)) | (go_at_call 13; exact ext_calls (HK3.out _))))
    refine wpQuiet_nil ?_
    rintro w8 ⟨⟨w9, hb9⟩, rfl⟩
    have HB9 := Lib.hid (bl_then HB5.out hb9)
    clear hb9
    go_wp2_with (fail)
    go_ret
    exact ⟨rfl, HB9.out⟩
end Go.Proofs.YtfojblbnhapedaaGreatDoor
