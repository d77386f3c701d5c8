/- The contracts of window.Text and window.Read and of the reference's, and the walk of the law WindowText. Conditions: as each theorem states them. -/
import Derived.Test.YtgpmceimhfkncaaU2
namespace Go.Proofs.Ytgpmceimhfkncaa.WT
open Go.RowKit Go.Proofs.Ytgpmceimhfkncaa Go.Proofs.Ytgpmceimhfkncaa.PWindowText Go.Proofs.YtgpmceimhfkncaaW.PrintWords Go.Proofs.YtgpmceimhfkncaaW.PrintLast Go.Proofs.YtgpmceimhfkncaaW.PrintMore
set_option linter.unusedVariables false
set_option linter.unusedSimpArgs false

set_option maxHeartbeats 1000000 in
theorem text_any (x1 x2 : Int) (w : World) (s : ByteArray) (e0 : Int) (hq : textV (x1, x2) = (s, e0)) :
    Calls Try.prog 24 #[.agg #[.int .i64 x1, .int .i64 x2]] w fun e w' => e = .returned (.tuple #[.string s, .int .i64 e0]) ∧ Below w.heap.size w w' := by
  unfold textV at hq
  cases hm : mayB (x1, x2)
  · rw [hm] at hq
    simp only [Bool.false_eq_true, if_false, Prod.mk.injEq] at hq
    obtain ⟨rfl, rfl⟩ := hq
    have HM := Lib.hid hm
    clear hm
    go_enter Try.func24, Try.ntmps24
    go_wp2_with (fail)
    refine (may_any _ _ false HM.out _).mono ?_
    rintro e w1 ⟨rfl, hb1⟩
    go_wp2
    refine bodyPost_ret (v := .tuple #[.string ⟨#[]⟩, .int .i64 2]) (by simp only [results, Try.results24]; go_simp) rfl ?_
    refine ⟨rfl, ?_⟩
    repeat first | exact Below.refl _ _ | refine Below.drew ?_ | refine bl_alloc ?_ _ | refine bl_then ?_ hb1
  · rw [hm] at hq
    simp only [if_true, Prod.mk.injEq] at hq
    obtain ⟨hq, rfl⟩ := hq
    have HM := Lib.hid hm
    clear hm
    obtain ⟨T, hT⟩ : ∃ T, T = txt := ⟨_, rfl⟩
    have hz1 := txt_size x1
    have hz2 := txt_size x2
    have HP : Hid (∀ n W, Calls Try.prog 33 #[.int .i64 n] W fun e w' => e = .returned (.string (T n)) ∧ Below W.heap.size W w') := Lib.hid fun n W => by rw [hT]; exact putord_any n W
    rw [← hT] at hq hz1 hz2
    subst hq
    clear hT
    go_enter Try.func24, Try.ntmps24
    go_wp2_with (fail)
    refine (may_any _ _ true HM.out _).mono ?_
    rintro e w1 ⟨rfl, hb1⟩
    have q0 : w1.cell? ⟨w.heap.size, 0, none⟩ = some (.int .i64 x1) := (hb1.cell (p := ⟨w.heap.size, 0, none⟩) (by simp)).trans (by go_simp)
    have q1 : w1.cell? ⟨w.heap.size, 1, none⟩ = some (.int .i64 x2) := (hb1.cell (p := ⟨w.heap.size, 1, none⟩) (by simp)).trans (by go_simp)
    have hz : w.heap.size < w1.heap.size := by have := hb1.size; simp at this; omega
    go_wp2_with (fail)
    have e0 := ext_cell q0
    have e1 := ext_cell q1
    have hs1 : (T x1).size + (T x2).size ≤ 9223372036854775807 := by omega
    refine wp_region_ext (by kernel_rfl) (by kernel_rfl) ?_
    repeat (go_big_quiet_step ((go_at_call 33; exact ext_calls (HP.out _ _))))
    refine wpQuiet_nil ?_
    rintro w2 ⟨⟨_, hb2⟩, rfl⟩
    go_wp2
    refine bodyPost_ret (v := .tuple #[.string (T x1 ++ T x2), .int .i64 0]) (by simp only [results, Try.results24]; go_simp) rfl ?_
    refine ⟨rfl, ?_⟩
    repeat first | exact Below.refl _ _ | refine Below.drew ?_ | refine bl_alloc ?_ _ | refine bl_then ?_ hb2 | refine bl_then ?_ hb1
theorem reftext_any (x1 x2 : Int) (w : World) (s : ByteArray) (e0 : Int) (hq : textV (x1, x2) = (s, e0)) :
    Calls Try.prog 25 #[.agg #[.int .i64 x1, .int .i64 x2]] w fun e w' => e = .returned (.tuple #[.string s, .int .i64 e0]) ∧ Below w.heap.size w w' := by
  have h := text_ref x1 x2
  rw [hq] at h
  exact freshetref21_Text.calls 9 x1 x2 _ _ w h
theorem read_any (s : ByteArray) (y1 y2 e0 : Int) (w : World) (hq : readV s = (y1, y2, e0)) :
    Calls Try.prog 26 #[.string s] w fun e w' => e = .returned (.tuple #[.agg #[.int .i64 y1, .int .i64 y2], .int .i64 e0]) ∧ Below w.heap.size w w' := by
  have h := read_w s
  rw [hq] at h
  exact window_Read.calls 9 s _ _ _ w h
theorem refread_any (s : ByteArray) (y1 y2 e0 : Int) (w : World) (hq : readV s = (y1, y2, e0)) :
    Calls Try.prog 27 #[.string s] w fun e w' => e = .returned (.tuple #[.agg #[.int .i64 y1, .int .i64 y2], .int .i64 e0]) ∧ Below w.heap.size w w' := by
  have h := read_r s
  rw [hq] at h
  exact freshetref21_Read.calls 9 s _ _ _ w h

set_option maxHeartbeats 1000000 in
theorem text_walk (x1 x2 : Int) (s : ByteArray) (w : World) (h1 : (Lit.int .i64 x1).wf = true) (h2 : (Lit.int .i64 x2).wf = true) (h3 : s.size ≤ 140737488351232) :
    Calls Try.prog 10 #[.agg #[.int .i64 x1, .int .i64 x2], .string s] w fun e w' => e = .returned (.bool true) ∧ Below w.heap.size w w' := by
  obtain ⟨t, e0, hq⟩ : ∃ t e0, textV (x1, x2) = (t, e0) := ⟨_, _, rfl⟩
  obtain ⟨y1, y2, g0, hr⟩ : ∃ y1 y2 g0, readV s = (y1, y2, g0) := ⟨_, _, _, rfl⟩
  have HQ := Lib.hid hq
  have HR := Lib.hid hr
  clear hq hr h1 h2 h3
  go_enter Try.func10, Try.ntmps10
  go_wp2_with (fail)
  refine (text_any x1 x2 _ t e0 HQ.out).mono ?_
  rintro e w1 ⟨rfl, hb1⟩
  have q0 : w1.cell? ⟨w.heap.size, 0, none⟩ = some (.int .i64 x1) := (hb1.cell (p := ⟨w.heap.size, 0, none⟩) (by simp)).trans (by go_simp)
  have q1 : w1.cell? ⟨w.heap.size, 1, none⟩ = some (.int .i64 x2) := (hb1.cell (p := ⟨w.heap.size, 1, none⟩) (by simp)).trans (by go_simp)
  have hz : w.heap.size < w1.heap.size := by have := hb1.size; simp at this; omega
  go_wp2_with (fail)
  refine (reftext_any x1 x2 _ t e0 HQ.out).mono ?_
  rintro e w2 ⟨rfl, hb2⟩
  go_wp2_with (fail)
  refine (read_any s y1 y2 g0 _ HR.out).mono ?_
  rintro e w3 ⟨rfl, hb3⟩
  go_wp2_with (fail)
  refine (refread_any s y1 y2 g0 _ HR.out).mono ?_
  rintro e w4 ⟨rfl, hb4⟩
  have r0 : w4.cell? ⟨w3.heap.size, 0, none⟩ = some (.int .i64 y1) := (hb4.cell (p := ⟨w3.heap.size, 0, none⟩) (by simp)).trans (by go_simp)
  have r1 : w4.cell? ⟨w3.heap.size, 1, none⟩ = some (.int .i64 y2) := (hb4.cell (p := ⟨w3.heap.size, 1, none⟩) (by simp)).trans (by go_simp)
  have hz4 : w3.heap.size < w4.heap.size := by have := hb4.size; simp at this; omega
  clear q0 q1
  go_wp2_with (fail)
  refine (awake_any _).mono ?_
  rintro e w5 ⟨rfl, hb5⟩
  go_wp2
  go_ret
  refine ⟨rfl, ?_⟩
  repeat first | exact Below.refl _ _ | refine Below.drew ?_ | refine bl_alloc ?_ _ | refine bl_then ?_ hb5 | refine bl_then ?_ hb4 | refine bl_then ?_ hb3 | refine bl_then ?_ hb2 | refine bl_then ?_ hb1
end Go.Proofs.Ytgpmceimhfkncaa.WT
