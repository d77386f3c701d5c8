/- The reference's model, new. Conditions: as each theorem states them. Printed by mkL5.py. -/
import Derived.Test.YtfojblbnhapedaaGreatDoorL4
import Derived.Test.YtfojblbnhapedaaGreatDoorL3
namespace Go.Proofs.YtfojblbnhapedaaGreatDoor
open Go.RowKit Go.Maps
set_option linter.unusedVariables false
set_option linter.unusedSimpArgs false

theorem kw_set11 (w : World) (X : Nat) (a0 a1 a2 a3 a4 a5 a6 a7 a8 a9 a10 : Value) : Kw (fun q => q = X) w (((((((((((w.setCell ⟨X, 0, none⟩ a0).setCell ⟨X, 1, none⟩ a1).setCell ⟨X, 2, none⟩ a2).setCell ⟨X, 3, none⟩ a3).setCell ⟨X, 4, none⟩ a4).setCell ⟨X, 5, none⟩ a5).setCell ⟨X, 6, none⟩ a6).setCell ⟨X, 7, none⟩ a7).setCell ⟨X, 8, none⟩ a8).setCell ⟨X, 9, none⟩ a9).setCell ⟨X, 10, none⟩ a10) := by
  have h := Kw.refl (fun q => q = X) w
  replace h := h.setCell (p := ⟨X, 0, none⟩) rfl a0
  replace h := h.setCell (p := ⟨X, 1, none⟩) rfl a1
  replace h := h.setCell (p := ⟨X, 2, none⟩) rfl a2
  replace h := h.setCell (p := ⟨X, 3, none⟩) rfl a3
  replace h := h.setCell (p := ⟨X, 4, none⟩) rfl a4
  replace h := h.setCell (p := ⟨X, 5, none⟩) rfl a5
  replace h := h.setCell (p := ⟨X, 6, none⟩) rfl a6
  replace h := h.setCell (p := ⟨X, 7, none⟩) rfl a7
  replace h := h.setCell (p := ⟨X, 8, none⟩) rfl a8
  replace h := h.setCell (p := ⟨X, 9, none⟩) rfl a9
  replace h := h.setCell (p := ⟨X, 10, none⟩) rfl a10
  exact h
theorem heap_set11 {w : World} {X : Nat} {t : TypeId} {z0 z1 z2 z3 z4 z5 z6 z7 z8 z9 z10 : Value} (a0 a1 a2 a3 a4 a5 a6 a7 a8 a9 a10 : Value) (h : w.heap[X]? = some (Obj.cells #[z0, z1, z2, z3, z4, z5, z6, z7, z8, z9, z10] t)) : (((((((((((w.setCell ⟨X, 0, none⟩ a0).setCell ⟨X, 1, none⟩ a1).setCell ⟨X, 2, none⟩ a2).setCell ⟨X, 3, none⟩ a3).setCell ⟨X, 4, none⟩ a4).setCell ⟨X, 5, none⟩ a5).setCell ⟨X, 6, none⟩ a6).setCell ⟨X, 7, none⟩ a7).setCell ⟨X, 8, none⟩ a8).setCell ⟨X, 9, none⟩ a9).setCell ⟨X, 10, none⟩ a10).heap[X]? = some (Obj.cells #[a0, a1, a2, a3, a4, a5, a6, a7, a8, a9, a10] t) := by
  replace h := set_heap (i := 0) (v := a0) h
  replace h := set_heap (i := 1) (v := a1) h
  replace h := set_heap (i := 2) (v := a2) h
  replace h := set_heap (i := 3) (v := a3) h
  replace h := set_heap (i := 4) (v := a4) h
  replace h := set_heap (i := 5) (v := a5) h
  replace h := set_heap (i := 6) (v := a6) h
  replace h := set_heap (i := 7) (v := a7) h
  replace h := set_heap (i := 8) (v := a8) h
  replace h := set_heap (i := 9) (v := a9) h
  replace h := set_heap (i := 10) (v := a10) h
  simpa using h
set_option maxRecDepth 100000 in
set_option maxHeartbeats 8000000 in
theorem rnew_no (j : Jb) (w : World) (hA : RdP w j.A j.ops) (hc : j.ops.length ≤ j.c) (hcb : j.c ≤ 9223372036854775807) (hj : ¬ jobP j) : Calls Tryz.prog 15 #[jbV j] w fun e w' => e = .returned (.tuple #[.agg #[.int .i64 0, .int .i64 0, .int .i64 0, .int .i64 0, .slice none 0 0, .int .i64 0, .int .i64 0, .slice none 0 0, .slice none 0 0, .slice none 0 0, .int .i64 0], .int .i64 2]) ∧ Below w.heap.size w w' := by
  obtain ⟨gr, so, bo, la, l, A, c⟩ := j
  have hs1 : (w.alloc (Obj.cells #[.int .i64 gr, .int .i64 so, .int .i64 bo, .int .i64 la, .slice A l.length c] 24)).heap.size = w.heap.size + 1 := by simp
  have hb := bl_alloc (bl_alloc (Below.refl w.heap.size w) (Obj.cells #[.int .i64 gr, .int .i64 so, .int .i64 bo, .int .i64 la, .slice A l.length c] 24)) (Obj.cells #[.int .i64 0, .int .i64 0, .int .i64 0, .int .i64 0, .slice none 0 0, .int .i64 0, .int .i64 0, .slice none 0 0, .slice none 0 0, .slice none 0 0, .int .i64 0] 38)
  have hn1 := heap_alloc_new (w.alloc (Obj.cells #[.int .i64 gr, .int .i64 so, .int .i64 bo, .int .i64 la, .slice A l.length c] 24)) (Obj.cells #[.int .i64 0, .int .i64 0, .int .i64 0, .int .i64 0, .slice none 0 0, .int .i64 0, .int .i64 0, .slice none 0 0, .slice none 0 0, .slice none 0 0, .int .i64 0] 38)
  have hn0 := ((Below.refl _ _).alloc (Nat.le_refl _) (Obj.cells #[.int .i64 0, .int .i64 0, .int .i64 0, .int .i64 0, .slice none 0 0, .int .i64 0, .int .i64 0, .slice none 0 0, .slice none 0 0, .slice none 0 0, .int .i64 0] 38)).block w.heap.size (by rw [hs1]; omega) |>.trans (heap_alloc_new w (Obj.cells #[.int .i64 gr, .int .i64 so, .int .i64 bo, .int .i64 la, .slice A l.length c] 24))
  rw [hs1] at hn1
  have HB := Lib.hid hb
  have HN := Lib.hid hn1
  have HN0 := Lib.hid hn0
  have HC := Lib.hid (rjob_any ⟨gr, so, bo, la, l, A, c⟩ _ (hA.below hb) hc hcb)
  rw [if_neg hj] at HC
  unfold jbV at *
  dsimp only at *
  clear hA hb hj hn1 hn0 hs1
  go_enter Tryz.func15, Tryz.ntmps15
  go_wp2_with (fail)
  refine HC.out.mono ?_
  rintro e w1 ⟨rfl, hb1⟩
  have HB1 := Lib.hid (bl_then HB.out hb1)
  have hx := (hb1.block _ (by simp)).trans HN.out
  have hl := (Array.getElem?_eq_some_iff.1 hx).1
  have y0 := cell_of hx 0
  have y1 := cell_of hx 1
  have y2 := cell_of hx 2
  have y3 := cell_of hx 3
  have y4 := cell_of hx 4
  have y5 := cell_of hx 5
  have y6 := cell_of hx 6
  have y7 := cell_of hx 7
  have y8 := cell_of hx 8
  have y9 := cell_of hx 9
  have y10 := cell_of hx 10
  simp only [List.getElem?_toArray, List.getElem?_cons_zero, List.getElem?_cons_succ] at y0 y1 y2 y3 y4 y5 y6 y7 y8 y9 y10
  have fy0 := froz_of hx 0
  have fy1 := froz_of hx 1
  have fy2 := froz_of hx 2
  have fy3 := froz_of hx 3
  have fy4 := froz_of hx 4
  have fy5 := froz_of hx 5
  have fy6 := froz_of hx 6
  have fy7 := froz_of hx 7
  have fy8 := froz_of hx 8
  have fy9 := froz_of hx 9
  have fy10 := froz_of hx 10
  have HFH := Lib.hid (heap_set11 (.int .i64 0) (.int .i64 0) (.int .i64 0) (.int .i64 0) (.slice none 0 0) (.int .i64 0) (.int .i64 0) (.slice none 0 0) (.slice none 0 0) (.slice none 0 0) (.int .i64 0) hx)
  have HFB := Lib.hid (HB1.out.trans ((kw_set11 w1 (w.heap.size + 1) (.int .i64 0) (.int .i64 0) (.int .i64 0) (.int .i64 0) (.slice none 0 0) (.int .i64 0) (.int .i64 0) (.slice none 0 0) (.slice none 0 0) (.slice none 0 0) (.int .i64 0)).below HB1.out.size (fun q hq => by omega)))
  clear hb1 hx
  go_wp2_with (fail)
  obtain ⟨Wf, hWf⟩ : ∃ Wf, (((((((((((w1.setCell ⟨w.heap.size + 1, 0, none⟩ (.int .i64 0)).setCell ⟨w.heap.size + 1, 1, none⟩ (.int .i64 0)).setCell ⟨w.heap.size + 1, 2, none⟩ (.int .i64 0)).setCell ⟨w.heap.size + 1, 3, none⟩ (.int .i64 0)).setCell ⟨w.heap.size + 1, 4, none⟩ (.slice none 0 0)).setCell ⟨w.heap.size + 1, 5, none⟩ (.int .i64 0)).setCell ⟨w.heap.size + 1, 6, none⟩ (.int .i64 0)).setCell ⟨w.heap.size + 1, 7, none⟩ (.slice none 0 0)).setCell ⟨w.heap.size + 1, 8, none⟩ (.slice none 0 0)).setCell ⟨w.heap.size + 1, 9, none⟩ (.slice none 0 0)).setCell ⟨w.heap.size + 1, 10, none⟩ (.int .i64 0)) = Wf := ⟨_, rfl⟩
  rw [hWf] at HFH HFB ⊢
  clear hWf
  have r0 := cell_of HFH.out 0
  have r1 := cell_of HFH.out 1
  have r2 := cell_of HFH.out 2
  have r3 := cell_of HFH.out 3
  have r4 := cell_of HFH.out 4
  have r5 := cell_of HFH.out 5
  have r6 := cell_of HFH.out 6
  have r7 := cell_of HFH.out 7
  have r8 := cell_of HFH.out 8
  have r9 := cell_of HFH.out 9
  have r10 := cell_of HFH.out 10
  simp only [List.getElem?_toArray, List.getElem?_cons_zero, List.getElem?_cons_succ] at r0 r1 r2 r3 r4 r5 r6 r7 r8 r9 r10
  refine bodyPost_ret (v := .tuple #[.agg #[.int .i64 0, .int .i64 0, .int .i64 0, .int .i64 0, .slice none 0 0, .int .i64 0, .int .i64 0, .slice none 0 0, .slice none 0 0, .slice none 0 0, .int .i64 0], .int .i64 2]) (by simp only [results, Tryz.results15]; go_simp) rfl ?_
  exact ⟨rfl, HFB.out⟩
set_option maxRecDepth 100000 in
set_option maxHeartbeats 8000000 in
theorem rnew_yes (j : Jb) (w : World) (hA : RdP w j.A j.ops) (hc : j.ops.length ≤ j.c) (hcb : j.c ≤ 9223372036854775807) (hj : jobP j) : Calls Tryz.prog 15 #[jbV j] w fun e w' => ∃ v1 v2, e = .returned (.tuple #[.agg #[.int .i64 j.groups, .int .i64 j.sources, .int .i64 j.bound, .int .i64 j.late, .slice j.A j.ops.length j.c, .int .i64 j.bound, .int .i64 (-1125899906842624), v1, v2, .slice none 0 0, .int .i64 0], .int .i64 0]) ∧ w'.ownsRow w.heap.size 2 1 v1 j.sources.toNat (rlo j.sources.toNat) ∧ w'.ownsRow w.heap.size 4 1 v2 j.sources.toNat (rno j.sources.toNat) ∧ Below w.heap.size w w' := by
  obtain ⟨g, hg⟩ : ∃ g : Nat, j.sources = (g : Int) := ⟨j.sources.toNat, by have := hj.1.2.2.1; omega⟩
  have hgt : j.sources.toNat = g := by omega
  have hmk : mkP g j.bound := ⟨by have := hj.1.2.2.1; omega, by have := hj.1.2.2.2.1; omega, hj.1.2.2.2.2.1, hj.1.2.2.2.2.2.1⟩
  rw [hgt]
  obtain ⟨gr, so, bo, la, l, A, c⟩ := j
  dsimp only at *
  subst hg
  have hs1 : (w.alloc (Obj.cells #[.int .i64 gr, .int .i64 (g : Int), .int .i64 bo, .int .i64 la, .slice A l.length c] 24)).heap.size = w.heap.size + 1 := by simp
  have hb := bl_alloc (bl_alloc (Below.refl w.heap.size w) (Obj.cells #[.int .i64 gr, .int .i64 (g : Int), .int .i64 bo, .int .i64 la, .slice A l.length c] 24)) (Obj.cells #[.int .i64 0, .int .i64 0, .int .i64 0, .int .i64 0, .slice none 0 0, .int .i64 0, .int .i64 0, .slice none 0 0, .slice none 0 0, .slice none 0 0, .int .i64 0] 38)
  have hn1 := heap_alloc_new (w.alloc (Obj.cells #[.int .i64 gr, .int .i64 (g : Int), .int .i64 bo, .int .i64 la, .slice A l.length c] 24)) (Obj.cells #[.int .i64 0, .int .i64 0, .int .i64 0, .int .i64 0, .slice none 0 0, .int .i64 0, .int .i64 0, .slice none 0 0, .slice none 0 0, .slice none 0 0, .int .i64 0] 38)
  have hn0 := ((Below.refl _ _).alloc (Nat.le_refl _) (Obj.cells #[.int .i64 0, .int .i64 0, .int .i64 0, .int .i64 0, .slice none 0 0, .int .i64 0, .int .i64 0, .slice none 0 0, .slice none 0 0, .slice none 0 0, .int .i64 0] 38)).block w.heap.size (by rw [hs1]; omega) |>.trans (heap_alloc_new w (Obj.cells #[.int .i64 gr, .int .i64 (g : Int), .int .i64 bo, .int .i64 la, .slice A l.length c] 24))
  rw [hs1] at hn1
  have HB := Lib.hid hb
  have HN := Lib.hid hn1
  have HN0 := Lib.hid hn0
  have HC := Lib.hid (rjob_any ⟨gr, (g : Int), bo, la, l, A, c⟩ _ (hA.below hb) hc hcb)
  rw [if_pos hj] at HC
  have HMK := Lib.hid (fun W => rmk_yes g bo W hmk)
  unfold jbV at *
  dsimp only at *
  clear hA hb hj hn1 hn0 hs1 hgt hmk
  go_enter Tryz.func15, Tryz.ntmps15
  go_wp2_with (fail)
  refine HC.out.mono ?_
  rintro e w1 ⟨rfl, hb1⟩
  have HB1 := Lib.hid (bl_then HB.out hb1)
  have hx0 := (hb1.block _ (by simp; omega)).trans HN0.out
  have hx1 := (hb1.block _ (by simp)).trans HN.out
  have hl0 := (Array.getElem?_eq_some_iff.1 hx0).1
  have HX0 := Lib.hid hx0
  have HX1 := Lib.hid hx1
  have s1 := cell_of hx0 1
  have s2 := cell_of hx0 2
  simp only [List.getElem?_toArray, List.getElem?_cons_zero, List.getElem?_cons_succ] at s1 s2
  clear hb1 hx0 hx1
  go_wp2_with (fail)
  refine (HMK.out w1).mono ?_
  rintro e w2 ⟨v1, v2, rfl, ho1, ho2, hb2⟩
  obtain ⟨A1, c1, rfl, _⟩ := own_read ho1 (by decide)
  obtain ⟨A2, c2, rfl, _⟩ := own_read ho2 (by decide)
  have hbz := hb2
  have hba := bl_alloc (Below.refl w2.heap.size w2) (Obj.cells #[.int .i64 bo, .int .i64 (-1125899906842624), .slice A1 g c1, .slice A2 g c2] 35)
  have HB2 := Lib.hid (bl_then HB1.out hb2)
  have hx0 := (hb2.block _ (Array.getElem?_eq_some_iff.1 HX0.out).1).trans HX0.out
  have hx1 := (hb2.block _ (Array.getElem?_eq_some_iff.1 HX1.out).1).trans HX1.out
  have hl0' := (Array.getElem?_eq_some_iff.1 hx0).1
  have hl1' := (Array.getElem?_eq_some_iff.1 hx1).1
  have t0 := cell_of hx0 0
  have t1 := cell_of hx0 1
  have t2 := cell_of hx0 2
  have t3 := cell_of hx0 3
  have t4 := cell_of hx0 4
  simp only [List.getElem?_toArray, List.getElem?_cons_zero, List.getElem?_cons_succ] at t0 t1 t2 t3 t4
  have y0 := cell_of hx1 0
  have y1 := cell_of hx1 1
  have y2 := cell_of hx1 2
  have y3 := cell_of hx1 3
  have y4 := cell_of hx1 4
  have y5 := cell_of hx1 5
  have y6 := cell_of hx1 6
  have y7 := cell_of hx1 7
  have y8 := cell_of hx1 8
  have y9 := cell_of hx1 9
  have y10 := cell_of hx1 10
  simp only [List.getElem?_toArray, List.getElem?_cons_zero, List.getElem?_cons_succ] at y0 y1 y2 y3 y4 y5 y6 y7 y8 y9 y10
  have fy0 := froz_of hx1 0
  have fy1 := froz_of hx1 1
  have fy2 := froz_of hx1 2
  have fy3 := froz_of hx1 3
  have fy4 := froz_of hx1 4
  have fy5 := froz_of hx1 5
  have fy6 := froz_of hx1 6
  have fy7 := froz_of hx1 7
  have fy8 := froz_of hx1 8
  have fy9 := froz_of hx1 9
  have fy10 := froz_of hx1 10
  have hkk := kw_set11 w2 (w.heap.size + 1) (.int .i64 gr) (.int .i64 (g : Int)) (.int .i64 bo) (.int .i64 la) (.slice A l.length c) (.int .i64 bo) (.int .i64 (-1125899906842624)) ((.slice A1 g c1)) ((.slice A2 g c2)) (.slice none 0 0) (.int .i64 0)
  have hfc := heap_set11 (.int .i64 gr) (.int .i64 (g : Int)) (.int .i64 bo) (.int .i64 la) (.slice A l.length c) (.int .i64 bo) (.int .i64 (-1125899906842624)) ((.slice A1 g c1)) ((.slice A2 g c2)) (.slice none 0 0) (.int .i64 0) hx1
  obtain ⟨Wc, hWc⟩ : ∃ Wc, (((((((((((w2.setCell ⟨w.heap.size + 1, 0, none⟩ (.int .i64 gr)).setCell ⟨w.heap.size + 1, 1, none⟩ (.int .i64 (g : Int))).setCell ⟨w.heap.size + 1, 2, none⟩ (.int .i64 bo)).setCell ⟨w.heap.size + 1, 3, none⟩ (.int .i64 la)).setCell ⟨w.heap.size + 1, 4, none⟩ (.slice A l.length c)).setCell ⟨w.heap.size + 1, 5, none⟩ (.int .i64 bo)).setCell ⟨w.heap.size + 1, 6, none⟩ (.int .i64 (-1125899906842624))).setCell ⟨w.heap.size + 1, 7, none⟩ ((.slice A1 g c1))).setCell ⟨w.heap.size + 1, 8, none⟩ ((.slice A2 g c2))).setCell ⟨w.heap.size + 1, 9, none⟩ (.slice none 0 0)).setCell ⟨w.heap.size + 1, 10, none⟩ (.int .i64 0)) = Wc := ⟨_, rfl⟩
  rw [hWc] at hkk hfc
  have hbc := bl_alloc (Below.refl Wc.heap.size Wc) (Obj.cells #[.int .i64 bo, .int .i64 (-1125899906842624), .slice A1 g c1, .slice A2 g c2] 35)
  have HFH := Lib.hid ((hbc.block _ (Array.getElem?_eq_some_iff.1 hfc).1).trans hfc)
  have HFB := Lib.hid (bl_then (HB2.out.trans (hkk.below (by have := HB2.out.size; omega) (fun q hq => by omega))) hbc)
  have HF1 := Lib.hid (own_weaken (own_below (own_kwB ho1 hkk (fun q cur hq e2 => by subst e2; exact absurd (lo_ne hx1 hq) (by decide))) hbc) HB1.out.size)
  have HF2 := Lib.hid (own_weaken (own_below (own_kwB ho2 hkk (fun q cur hq e2 => by subst e2; exact absurd (lo_ne hx1 hq) (by decide))) hbc) HB1.out.size)
  have HWC := Lib.hid hWc
  clear hb2 hbz hba hx0 hx1 hkk hfc hbc hWc ho1 ho2 s1 s2
  go_wp2_with (fail)
  rw [HWC.out]
  generalize hWf : Wc.alloc (Obj.cells #[.int .i64 bo, .int .i64 (-1125899906842624), .slice A1 g c1, .slice A2 g c2] 35) = Wf at *
  have r0 := cell_of HFH.out 0
  have r1 := cell_of HFH.out 1
  have r2 := cell_of HFH.out 2
  have r3 := cell_of HFH.out 3
  have r4 := cell_of HFH.out 4
  have r5 := cell_of HFH.out 5
  have r6 := cell_of HFH.out 6
  have r7 := cell_of HFH.out 7
  have r8 := cell_of HFH.out 8
  have r9 := cell_of HFH.out 9
  have r10 := cell_of HFH.out 10
  simp only [List.getElem?_toArray, List.getElem?_cons_zero, List.getElem?_cons_succ] at r0 r1 r2 r3 r4 r5 r6 r7 r8 r9 r10
  refine bodyPost_ret (v := .tuple #[.agg #[.int .i64 gr, .int .i64 (g : Int), .int .i64 bo, .int .i64 la, .slice A l.length c, .int .i64 bo, .int .i64 (-1125899906842624), (.slice A1 g c1), (.slice A2 g c2), .slice none 0 0, .int .i64 0], .int .i64 0]) (by simp only [results, Tryz.results15]; go_simp) rfl ?_
  exact ⟨_, _, rfl, HF1.out, HF2.out, HFB.out⟩
end Go.Proofs.YtfojblbnhapedaaGreatDoor
