/- The walk of DiskAtOnce. Conditions: as each theorem states them. -/
import Derived.Test.YtjgiohlkpenipaaC3
namespace Go.Proofs.Ytjgiohlkpenipaa
open Go.RowKit Go.Maps
set_option linter.unusedVariables false
set_option linter.unusedSimpArgs false

set_option maxRecDepth 100000 in
set_option maxHeartbeats 8000000 in
theorem once_t (x y : ByteArray) (cs : List Int) (A : Option Addr) (c : Nat) (w : World) (hx : x.size ≤ 2000) (hy : y.size ≤ 2000) (hA : RdC w A cs) (hc : cs.length ≤ c) (hoff : 0 < cs.length → ChA w.heap.size A) :
    Calls Try.prog 3 #[.string x, .string y, .bool true, .slice A cs.length c] w fun e w' => e = .returned (.bool true) ∧ Below w.heap.size w w' := by
  have i0 : Inv (newS rm) := Inv.new (by unfold rm; omega)
  obtain ⟨i1, i2, i3, i4, i5, i6, i7, i8, i9⟩ := ivs x y hx hy
  have HN := Lib.hid (new_dk rm w (by unfold rm; omega))
  have H0 := Lib.hid (fun w' d (h : Dk w' d (newS rm) w.heap.size) (hB : w.heap.size ≤ w'.heap.size) => create_dk h i0 (by show 0 < 1000000; omega) hB okO)
  rw [p1] at H0
  have H1 := Lib.hid (fun w' d (h : Dk w' d (a1) w.heap.size) (hB : w.heap.size ≤ w'.heap.size) => append_dk (data := x) h i1 (by show 1 < 1000000; omega) hB okO (by assumption))
  rw [p2 x hx] at H1
  have H2 := Lib.hid (fun w' d (h : Dk w' d (a2 x) w.heap.size) (hB : w.heap.size ≤ w'.heap.size) => sync_dk h i2 (by show 2 < 1000000; omega) hB okO)
  rw [p3 x] at H2
  have H3 := Lib.hid (fun w' d (h : Dk w' d (a3 x) w.heap.size) (hB : w.heap.size ≤ w'.heap.size) => create_dk h i3 (by show 3 < 1000000; omega) hB okT)
  rw [p4 x] at H3
  have H4 := Lib.hid (fun w' d (h : Dk w' d (a4 x) w.heap.size) (hB : w.heap.size ≤ w'.heap.size) => append_dk (data := y) h i4 (by show 4 < 1000000; omega) hB okT (by assumption))
  rw [p5 x y hx hy] at H4
  have H5 := Lib.hid (fun w' d (h : Dk w' d (a5 x y) w.heap.size) (hB : w.heap.size ≤ w'.heap.size) => sync_dk h i5 (by show 5 < 1000000; omega) hB okT)
  rw [p6 x y] at H5
  have H6 := Lib.hid (fun w' d (h : Dk w' d (a6 x y) w.heap.size) (hB : w.heap.size ≤ w'.heap.size) => syncdir_dk h i6 (by show 6 < 1000000; omega) hB)
  rw [p7 x y] at H6
  have H7 := Lib.hid (fun w' d (h : Dk w' d (a7 x y) w.heap.size) (hB : w.heap.size ≤ w'.heap.size) => rename_dk (to := bO) h i7 (by show 7 < 1000000; omega) hB okT)
  rw [p8 x y] at H7
  have H8 := Lib.hid (fun w' d (h : Dk w' d (a8 x y) w.heap.size) (hB : w.heap.size ≤ w'.heap.size) => syncdir_dk h i8 (by show 8 < 1000000; omega) hB)
  rw [p9 x y] at H8
  have HCR := Lib.hid (fun w' d (h : Dk w' d (a9 x y) w.heap.size) (hB : w.heap.size ≤ w'.heap.size) (k : Below w.heap.size w w') => crash_arg h i9 hB (hA.kw (S := fun b => w.heap.size ≤ b) (w' := w') ⟨k.os, k.tape, k.output, k.size, fun b hb hs => k.block b hb⟩ (fun hp a ha e => by have := hoff hp a ha; omega)) hc hoff)
  have HRO := Lib.hid (fun w' d (h : Dk w' d ((a9 x y).crash cs) w.heap.size) => read_dk h okO)
  have HRT := Lib.hid (fun w' d (h : Dk w' d ((a9 x y).crash cs) w.heap.size) => read_dk h okT)
  rw [(q9 x y cs).1] at HRO
  rw [(q9 x y cs).2] at HRT
  obtain ⟨m, hm⟩ : ∃ m, cs.length = m := ⟨_, rfl⟩
  rw [hm] at HCR ⊢
  obtain ⟨xs, hxs⟩ : ∃ xs, x.size = xs := ⟨_, rfl⟩
  obtain ⟨ys, hys⟩ : ∃ ys, y.size = ys := ⟨_, rfl⟩
  rw [hxs] at hx
  rw [hys] at hy
  have hxi : ¬ (2000 : Int) < (xs : Int) := by omega
  have hyi : ¬ (2000 : Int) < (ys : Int) := by omega
  clear i0 i1 i2 i3 i4 i5 i6 i7 i8 i9 hA hc hoff hm
  unfold bO bT ptrV rm at *
  go_enter Try.func3, Try.ntmps3
  go_wp2_with (fail)
  refine HN.out.mono ?_
  rintro r w0 ⟨d, rfl, hd, hb⟩
  have HD0 := Lib.hid hd
  have HB0 := Lib.hid hb
  clear hd hb
  go_wp2_with (fail)
  refine (H0.out w0 d HD0.out HB0.out.size).mono ?_
  rintro r w1 ⟨rfl, hd, hb⟩
  have HD1 := Lib.hid hd
  have HB1 := Lib.hid (HB0.out.trans (hb.mono (Nat.le_refl _)))
  clear hd hb
  go_wp2_with (fail)
  refine (H1.out w1 d HD1.out HB1.out.size).mono ?_
  rintro r w2 ⟨rfl, hd, hb⟩
  have HD2 := Lib.hid hd
  have HB2 := Lib.hid (HB1.out.trans (hb.mono (Nat.le_refl _)))
  clear hd hb
  go_wp2_with (fail)
  refine (H2.out w2 d HD2.out HB2.out.size).mono ?_
  rintro r w3 ⟨rfl, hd, hb⟩
  have HD3 := Lib.hid hd
  have HB3 := Lib.hid (HB2.out.trans (hb.mono (Nat.le_refl _)))
  clear hd hb
  go_wp2_with (fail)
  refine (H3.out w3 d HD3.out HB3.out.size).mono ?_
  rintro r w4 ⟨rfl, hd, hb⟩
  have HD4 := Lib.hid hd
  have HB4 := Lib.hid (HB3.out.trans (hb.mono (Nat.le_refl _)))
  clear hd hb
  go_wp2_with (fail)
  refine (H4.out w4 d HD4.out HB4.out.size).mono ?_
  rintro r w5 ⟨rfl, hd, hb⟩
  have HD5 := Lib.hid hd
  have HB5 := Lib.hid (HB4.out.trans (hb.mono (Nat.le_refl _)))
  clear hd hb
  go_wp2_with (fail)
  refine (H5.out w5 d HD5.out HB5.out.size).mono ?_
  rintro r w6 ⟨rfl, hd, hb⟩
  have HD6 := Lib.hid hd
  have HB6 := Lib.hid (HB5.out.trans (hb.mono (Nat.le_refl _)))
  clear hd hb
  go_wp2_with (fail)
  refine (H6.out w6 d HD6.out HB6.out.size).mono ?_
  rintro r w7 ⟨rfl, hd, hb⟩
  have HD7 := Lib.hid hd
  have HB7 := Lib.hid (HB6.out.trans (hb.mono (Nat.le_refl _)))
  clear hd hb
  go_wp2_with (fail)
  refine (H7.out w7 d HD7.out HB7.out.size).mono ?_
  rintro r w8 ⟨rfl, hd, hb⟩
  have HD8 := Lib.hid hd
  have HB8 := Lib.hid (HB7.out.trans (hb.mono (Nat.le_refl _)))
  clear hd hb
  go_wp2_with (fail)
  refine (H8.out w8 d HD8.out HB8.out.size).mono ?_
  rintro r w9 ⟨rfl, hd, hb⟩
  have HD9 := Lib.hid hd
  have HB9 := Lib.hid (HB8.out.trans (hb.mono (Nat.le_refl _)))
  clear hd hb
  go_wp2_with (fail)
  refine (HCR.out w9 d HD9.out HB9.out.size HB9.out).mono ?_
  rintro r wc ⟨rfl, hd, hb⟩
  have HDC := Lib.hid hd
  have HBC := Lib.hid (HB9.out.trans (hb.mono (Nat.le_refl _)))
  clear hd hb
  go_wp2_with (fail)
  refine (HRO.out wc d HDC.out).mono ?_
  rintro r w' ⟨rfl, rfl⟩
  go_wp2_with (fail)
  refine (HRT.out wc d HDC.out).mono ?_
  rintro r w' ⟨rfl, rfl⟩
  go_wp2_with (fail)
  all_goals (
    refine (awake_any wc).mono ?_
    rintro e w9 ⟨rfl, hb9⟩
    go_wp2_with (fail)
    go_ret
    exact ⟨rfl, HBC.out.trans (hb9.mono HBC.out.size)⟩)
set_option maxRecDepth 100000 in
set_option maxHeartbeats 8000000 in
theorem once_f0 (x y : ByteArray) (cs : List Int) (A : Option Addr) (c : Nat) (w : World) (hx : x.size ≤ 2000) (hy : y.size ≤ 2000) (hA : RdC w A cs) (hc : cs.length ≤ c) (hoff : 0 < cs.length → ChA w.heap.size A) (hk : pick cs 2 = 0) :
    Calls Try.prog 3 #[.string x, .string y, .bool false, .slice A cs.length c] w fun e w' => e = .returned (.bool true) ∧ Below w.heap.size w w' := by
  have i0 : Inv (newS rm) := Inv.new (by unfold rm; omega)
  obtain ⟨i1, i2, i3, i4, i5, i6, i7, i8, i9⟩ := ivs x y hx hy
  have HN := Lib.hid (new_dk rm w (by unfold rm; omega))
  have H0 := Lib.hid (fun w' d (h : Dk w' d (newS rm) w.heap.size) (hB : w.heap.size ≤ w'.heap.size) => create_dk h i0 (by show 0 < 1000000; omega) hB okO)
  rw [p1] at H0
  have H1 := Lib.hid (fun w' d (h : Dk w' d (a1) w.heap.size) (hB : w.heap.size ≤ w'.heap.size) => append_dk (data := x) h i1 (by show 1 < 1000000; omega) hB okO (by assumption))
  rw [p2 x hx] at H1
  have H2 := Lib.hid (fun w' d (h : Dk w' d (a2 x) w.heap.size) (hB : w.heap.size ≤ w'.heap.size) => sync_dk h i2 (by show 2 < 1000000; omega) hB okO)
  rw [p3 x] at H2
  have H3 := Lib.hid (fun w' d (h : Dk w' d (a3 x) w.heap.size) (hB : w.heap.size ≤ w'.heap.size) => create_dk h i3 (by show 3 < 1000000; omega) hB okT)
  rw [p4 x] at H3
  have H4 := Lib.hid (fun w' d (h : Dk w' d (a4 x) w.heap.size) (hB : w.heap.size ≤ w'.heap.size) => append_dk (data := y) h i4 (by show 4 < 1000000; omega) hB okT (by assumption))
  rw [p5 x y hx hy] at H4
  have H5 := Lib.hid (fun w' d (h : Dk w' d (a5 x y) w.heap.size) (hB : w.heap.size ≤ w'.heap.size) => sync_dk h i5 (by show 5 < 1000000; omega) hB okT)
  rw [p6 x y] at H5
  have H6 := Lib.hid (fun w' d (h : Dk w' d (a6 x y) w.heap.size) (hB : w.heap.size ≤ w'.heap.size) => syncdir_dk h i6 (by show 6 < 1000000; omega) hB)
  rw [p7 x y] at H6
  have H7 := Lib.hid (fun w' d (h : Dk w' d (a7 x y) w.heap.size) (hB : w.heap.size ≤ w'.heap.size) => rename_dk (to := bO) h i7 (by show 7 < 1000000; omega) hB okT)
  rw [p8 x y] at H7
  have HCR := Lib.hid (fun w' d (h : Dk w' d (a8 x y) w.heap.size) (hB : w.heap.size ≤ w'.heap.size) (k : Below w.heap.size w w') => crash_arg h i8 hB (hA.kw (S := fun b => w.heap.size ≤ b) (w' := w') ⟨k.os, k.tape, k.output, k.size, fun b hb hs => k.block b hb⟩ (fun hp a ha e => by have := hoff hp a ha; omega)) hc hoff)
  have HRO := Lib.hid (fun w' d (h : Dk w' d ((a8 x y).crash cs) w.heap.size) => read_dk h okO)
  have HRT := Lib.hid (fun w' d (h : Dk w' d ((a8 x y).crash cs) w.heap.size) => read_dk h okT)
  rw [(q0 x y cs hk).1] at HRO
  rw [(q0 x y cs hk).2] at HRT
  obtain ⟨m, hm⟩ : ∃ m, cs.length = m := ⟨_, rfl⟩
  rw [hm] at HCR ⊢
  obtain ⟨xs, hxs⟩ : ∃ xs, x.size = xs := ⟨_, rfl⟩
  obtain ⟨ys, hys⟩ : ∃ ys, y.size = ys := ⟨_, rfl⟩
  rw [hxs] at hx
  rw [hys] at hy
  have hxi : ¬ (2000 : Int) < (xs : Int) := by omega
  have hyi : ¬ (2000 : Int) < (ys : Int) := by omega
  clear i0 i1 i2 i3 i4 i5 i6 i7 i8 i9 hA hc hoff hm
  unfold bO bT ptrV rm at *
  go_enter Try.func3, Try.ntmps3
  go_wp2_with (fail)
  refine HN.out.mono ?_
  rintro r w0 ⟨d, rfl, hd, hb⟩
  have HD0 := Lib.hid hd
  have HB0 := Lib.hid hb
  clear hd hb
  go_wp2_with (fail)
  refine (H0.out w0 d HD0.out HB0.out.size).mono ?_
  rintro r w1 ⟨rfl, hd, hb⟩
  have HD1 := Lib.hid hd
  have HB1 := Lib.hid (HB0.out.trans (hb.mono (Nat.le_refl _)))
  clear hd hb
  go_wp2_with (fail)
  refine (H1.out w1 d HD1.out HB1.out.size).mono ?_
  rintro r w2 ⟨rfl, hd, hb⟩
  have HD2 := Lib.hid hd
  have HB2 := Lib.hid (HB1.out.trans (hb.mono (Nat.le_refl _)))
  clear hd hb
  go_wp2_with (fail)
  refine (H2.out w2 d HD2.out HB2.out.size).mono ?_
  rintro r w3 ⟨rfl, hd, hb⟩
  have HD3 := Lib.hid hd
  have HB3 := Lib.hid (HB2.out.trans (hb.mono (Nat.le_refl _)))
  clear hd hb
  go_wp2_with (fail)
  refine (H3.out w3 d HD3.out HB3.out.size).mono ?_
  rintro r w4 ⟨rfl, hd, hb⟩
  have HD4 := Lib.hid hd
  have HB4 := Lib.hid (HB3.out.trans (hb.mono (Nat.le_refl _)))
  clear hd hb
  go_wp2_with (fail)
  refine (H4.out w4 d HD4.out HB4.out.size).mono ?_
  rintro r w5 ⟨rfl, hd, hb⟩
  have HD5 := Lib.hid hd
  have HB5 := Lib.hid (HB4.out.trans (hb.mono (Nat.le_refl _)))
  clear hd hb
  go_wp2_with (fail)
  refine (H5.out w5 d HD5.out HB5.out.size).mono ?_
  rintro r w6 ⟨rfl, hd, hb⟩
  have HD6 := Lib.hid hd
  have HB6 := Lib.hid (HB5.out.trans (hb.mono (Nat.le_refl _)))
  clear hd hb
  go_wp2_with (fail)
  refine (H6.out w6 d HD6.out HB6.out.size).mono ?_
  rintro r w7 ⟨rfl, hd, hb⟩
  have HD7 := Lib.hid hd
  have HB7 := Lib.hid (HB6.out.trans (hb.mono (Nat.le_refl _)))
  clear hd hb
  go_wp2_with (fail)
  refine (H7.out w7 d HD7.out HB7.out.size).mono ?_
  rintro r w8 ⟨rfl, hd, hb⟩
  have HD8 := Lib.hid hd
  have HB8 := Lib.hid (HB7.out.trans (hb.mono (Nat.le_refl _)))
  clear hd hb
  go_wp2_with (fail)
  refine (HCR.out w8 d HD8.out HB8.out.size HB8.out).mono ?_
  rintro r wc ⟨rfl, hd, hb⟩
  have HDC := Lib.hid hd
  have HBC := Lib.hid (HB8.out.trans (hb.mono (Nat.le_refl _)))
  clear hd hb
  go_wp2_with (fail)
  refine (HRO.out wc d HDC.out).mono ?_
  rintro r w' ⟨rfl, rfl⟩
  go_wp2_with (fail)
  refine (HRT.out wc d HDC.out).mono ?_
  rintro r w' ⟨rfl, rfl⟩
  go_wp2_with (fail)
  all_goals (
    refine (awake_any wc).mono ?_
    rintro e w9 ⟨rfl, hb9⟩
    go_wp2_with (fail)
    go_ret
    exact ⟨rfl, HBC.out.trans (hb9.mono HBC.out.size)⟩)
set_option maxRecDepth 100000 in
set_option maxHeartbeats 8000000 in
theorem once_f1 (x y : ByteArray) (cs : List Int) (A : Option Addr) (c : Nat) (w : World) (hx : x.size ≤ 2000) (hy : y.size ≤ 2000) (hA : RdC w A cs) (hc : cs.length ≤ c) (hoff : 0 < cs.length → ChA w.heap.size A) (hk : pick cs 2 = 1) :
    Calls Try.prog 3 #[.string x, .string y, .bool false, .slice A cs.length c] w fun e w' => e = .returned (.bool true) ∧ Below w.heap.size w w' := by
  have i0 : Inv (newS rm) := Inv.new (by unfold rm; omega)
  obtain ⟨i1, i2, i3, i4, i5, i6, i7, i8, i9⟩ := ivs x y hx hy
  have HN := Lib.hid (new_dk rm w (by unfold rm; omega))
  have H0 := Lib.hid (fun w' d (h : Dk w' d (newS rm) w.heap.size) (hB : w.heap.size ≤ w'.heap.size) => create_dk h i0 (by show 0 < 1000000; omega) hB okO)
  rw [p1] at H0
  have H1 := Lib.hid (fun w' d (h : Dk w' d (a1) w.heap.size) (hB : w.heap.size ≤ w'.heap.size) => append_dk (data := x) h i1 (by show 1 < 1000000; omega) hB okO (by assumption))
  rw [p2 x hx] at H1
  have H2 := Lib.hid (fun w' d (h : Dk w' d (a2 x) w.heap.size) (hB : w.heap.size ≤ w'.heap.size) => sync_dk h i2 (by show 2 < 1000000; omega) hB okO)
  rw [p3 x] at H2
  have H3 := Lib.hid (fun w' d (h : Dk w' d (a3 x) w.heap.size) (hB : w.heap.size ≤ w'.heap.size) => create_dk h i3 (by show 3 < 1000000; omega) hB okT)
  rw [p4 x] at H3
  have H4 := Lib.hid (fun w' d (h : Dk w' d (a4 x) w.heap.size) (hB : w.heap.size ≤ w'.heap.size) => append_dk (data := y) h i4 (by show 4 < 1000000; omega) hB okT (by assumption))
  rw [p5 x y hx hy] at H4
  have H5 := Lib.hid (fun w' d (h : Dk w' d (a5 x y) w.heap.size) (hB : w.heap.size ≤ w'.heap.size) => sync_dk h i5 (by show 5 < 1000000; omega) hB okT)
  rw [p6 x y] at H5
  have H6 := Lib.hid (fun w' d (h : Dk w' d (a6 x y) w.heap.size) (hB : w.heap.size ≤ w'.heap.size) => syncdir_dk h i6 (by show 6 < 1000000; omega) hB)
  rw [p7 x y] at H6
  have H7 := Lib.hid (fun w' d (h : Dk w' d (a7 x y) w.heap.size) (hB : w.heap.size ≤ w'.heap.size) => rename_dk (to := bO) h i7 (by show 7 < 1000000; omega) hB okT)
  rw [p8 x y] at H7
  have HCR := Lib.hid (fun w' d (h : Dk w' d (a8 x y) w.heap.size) (hB : w.heap.size ≤ w'.heap.size) (k : Below w.heap.size w w') => crash_arg h i8 hB (hA.kw (S := fun b => w.heap.size ≤ b) (w' := w') ⟨k.os, k.tape, k.output, k.size, fun b hb hs => k.block b hb⟩ (fun hp a ha e => by have := hoff hp a ha; omega)) hc hoff)
  have HRO := Lib.hid (fun w' d (h : Dk w' d ((a8 x y).crash cs) w.heap.size) => read_dk h okO)
  have HRT := Lib.hid (fun w' d (h : Dk w' d ((a8 x y).crash cs) w.heap.size) => read_dk h okT)
  rw [(q1 x y cs hk).1] at HRO
  rw [(q1 x y cs hk).2] at HRT
  obtain ⟨m, hm⟩ : ∃ m, cs.length = m := ⟨_, rfl⟩
  rw [hm] at HCR ⊢
  obtain ⟨xs, hxs⟩ : ∃ xs, x.size = xs := ⟨_, rfl⟩
  obtain ⟨ys, hys⟩ : ∃ ys, y.size = ys := ⟨_, rfl⟩
  rw [hxs] at hx
  rw [hys] at hy
  have hxi : ¬ (2000 : Int) < (xs : Int) := by omega
  have hyi : ¬ (2000 : Int) < (ys : Int) := by omega
  clear i0 i1 i2 i3 i4 i5 i6 i7 i8 i9 hA hc hoff hm
  unfold bO bT ptrV rm at *
  go_enter Try.func3, Try.ntmps3
  go_wp2_with (fail)
  refine HN.out.mono ?_
  rintro r w0 ⟨d, rfl, hd, hb⟩
  have HD0 := Lib.hid hd
  have HB0 := Lib.hid hb
  clear hd hb
  go_wp2_with (fail)
  refine (H0.out w0 d HD0.out HB0.out.size).mono ?_
  rintro r w1 ⟨rfl, hd, hb⟩
  have HD1 := Lib.hid hd
  have HB1 := Lib.hid (HB0.out.trans (hb.mono (Nat.le_refl _)))
  clear hd hb
  go_wp2_with (fail)
  refine (H1.out w1 d HD1.out HB1.out.size).mono ?_
  rintro r w2 ⟨rfl, hd, hb⟩
  have HD2 := Lib.hid hd
  have HB2 := Lib.hid (HB1.out.trans (hb.mono (Nat.le_refl _)))
  clear hd hb
  go_wp2_with (fail)
  refine (H2.out w2 d HD2.out HB2.out.size).mono ?_
  rintro r w3 ⟨rfl, hd, hb⟩
  have HD3 := Lib.hid hd
  have HB3 := Lib.hid (HB2.out.trans (hb.mono (Nat.le_refl _)))
  clear hd hb
  go_wp2_with (fail)
  refine (H3.out w3 d HD3.out HB3.out.size).mono ?_
  rintro r w4 ⟨rfl, hd, hb⟩
  have HD4 := Lib.hid hd
  have HB4 := Lib.hid (HB3.out.trans (hb.mono (Nat.le_refl _)))
  clear hd hb
  go_wp2_with (fail)
  refine (H4.out w4 d HD4.out HB4.out.size).mono ?_
  rintro r w5 ⟨rfl, hd, hb⟩
  have HD5 := Lib.hid hd
  have HB5 := Lib.hid (HB4.out.trans (hb.mono (Nat.le_refl _)))
  clear hd hb
  go_wp2_with (fail)
  refine (H5.out w5 d HD5.out HB5.out.size).mono ?_
  rintro r w6 ⟨rfl, hd, hb⟩
  have HD6 := Lib.hid hd
  have HB6 := Lib.hid (HB5.out.trans (hb.mono (Nat.le_refl _)))
  clear hd hb
  go_wp2_with (fail)
  refine (H6.out w6 d HD6.out HB6.out.size).mono ?_
  rintro r w7 ⟨rfl, hd, hb⟩
  have HD7 := Lib.hid hd
  have HB7 := Lib.hid (HB6.out.trans (hb.mono (Nat.le_refl _)))
  clear hd hb
  go_wp2_with (fail)
  refine (H7.out w7 d HD7.out HB7.out.size).mono ?_
  rintro r w8 ⟨rfl, hd, hb⟩
  have HD8 := Lib.hid hd
  have HB8 := Lib.hid (HB7.out.trans (hb.mono (Nat.le_refl _)))
  clear hd hb
  go_wp2_with (fail)
  refine (HCR.out w8 d HD8.out HB8.out.size HB8.out).mono ?_
  rintro r wc ⟨rfl, hd, hb⟩
  have HDC := Lib.hid hd
  have HBC := Lib.hid (HB8.out.trans (hb.mono (Nat.le_refl _)))
  clear hd hb
  go_wp2_with (fail)
  refine (HRO.out wc d HDC.out).mono ?_
  rintro r w' ⟨rfl, rfl⟩
  go_wp2_with (fail)
  refine (HRT.out wc d HDC.out).mono ?_
  rintro r w' ⟨rfl, rfl⟩
  go_wp2_with (fail)
  all_goals (
    refine (awake_any wc).mono ?_
    rintro e w9 ⟨rfl, hb9⟩
    go_wp2_with (fail)
    go_ret
    exact ⟨rfl, HBC.out.trans (hb9.mono HBC.out.size)⟩)
set_option maxRecDepth 100000 in
set_option maxHeartbeats 4000000 in
theorem once_big (x y : ByteArray) (sure : Bool) (n c : Nat) (A : Option Addr) (w : World) (h : ¬ (x.size ≤ 2000 ∧ y.size ≤ 2000)) :
    Calls Try.prog 3 #[.string x, .string y, .bool sure, .slice A n c] w fun e w' => e = .returned (.bool true) ∧ Below w.heap.size w w' := by
  obtain ⟨xs, hxs⟩ : ∃ xs, x.size = xs := ⟨_, rfl⟩
  obtain ⟨ys, hys⟩ : ∃ ys, y.size = ys := ⟨_, rfl⟩
  rw [hxs, hys] at h
  by_cases hx : 2000 < xs
  · have hxi : (2000 : Int) < (xs : Int) := by omega
    go_enter Try.func3, Try.ntmps3
    go_wp2_with (go_at_call 9; refine (awake_any w).mono ?_; rintro e w9 ⟨rfl, hb9⟩)
    go_ret
    exact ⟨rfl, hb9⟩
  · have hy : 2000 < ys := by omega
    have hxi : ¬ (2000 : Int) < (xs : Int) := by omega
    have hyi : (2000 : Int) < (ys : Int) := by omega
    go_enter Try.func3, Try.ntmps3
    go_wp2_with (go_at_call 9; refine (awake_any w).mono ?_; rintro e w9 ⟨rfl, hb9⟩)
    go_ret
    exact ⟨rfl, hb9⟩
theorem once_any (x y : ByteArray) (sure : Bool) (cs : List Int) (A : Option Addr) (c : Nat) (w : World) (hA : RdC w A cs) (hc : cs.length ≤ c) (hoff : 0 < cs.length → ChA w.heap.size A) :
    Calls Try.prog 3 #[.string x, .string y, .bool sure, .slice A cs.length c] w fun e w' => e = .returned (.bool true) ∧ Below w.heap.size w w' := by
  by_cases h : x.size ≤ 2000 ∧ y.size ≤ 2000
  · cases sure with
    | true => exact once_t x y cs A c w h.1 h.2 hA hc hoff
    | false =>
      have hk := pick_lt cs (n := 2) (by omega)
      by_cases h0 : pick cs 2 = 0
      · exact once_f0 x y cs A c w h.1 h.2 hA hc hoff h0
      · exact once_f1 x y cs A c w h.1 h.2 hA hc hoff (by omega)
  · exact once_big x y sure cs.length c A w h
end Go.Proofs.Ytjgiohlkpenipaa
