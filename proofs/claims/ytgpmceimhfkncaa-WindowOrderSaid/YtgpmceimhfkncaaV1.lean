/- The walk of the law WindowOrder: it returns true, for any two windows. Conditions: as the theorem states them. -/
import Derived.Test.YtgpmceimhfkncaaV0
namespace Go.Proofs.Ytgpmceimhfkncaa.WT
open Go.RowKit Go.Proofs.Ytgpmceimhfkncaa Go.Proofs.YtgpmceimhfkncaaW.PrintWords
set_option linter.unusedVariables false
set_option linter.unusedSimpArgs false

set_option maxHeartbeats 1000000 in
theorem order_a (a1 a2 b1 b2 : Int) (w : World) (t : ByteArray) (f0 : Int) (hs : textV (a1, a2) = (⟨#[]⟩, 2)) (ht : textV (b1, b2) = (t, f0)) :
    Calls Try.prog 11 #[.agg #[.int .i64 a1, .int .i64 a2], .agg #[.int .i64 b1, .int .i64 b2]] w fun e w' => e = .returned (.bool true) ∧ Below w.heap.size w w' := by
  have HS := Lib.hid hs
  have HT := Lib.hid ht
  clear hs ht
  go_enter Try.func11, Try.ntmps11
  go_wp2_with (fail)
  refine (text_any a1 a2 _ _ _ HS.out).mono ?_
  rintro e w1 ⟨rfl, hb1⟩
  have q0 : w1.cell? ⟨w.heap.size + 1, 0, none⟩ = some (.int .i64 b1) := (hb1.cell (p := ⟨w.heap.size + 1, 0, none⟩) (by simp)).trans (by go_simp)
  have q1 : w1.cell? ⟨w.heap.size + 1, 1, none⟩ = some (.int .i64 b2) := (hb1.cell (p := ⟨w.heap.size + 1, 1, none⟩) (by simp)).trans (by go_simp)
  have r0 : w1.cell? ⟨w.heap.size, 0, none⟩ = some (.int .i64 a1) := (hb1.cell (p := ⟨w.heap.size, 0, none⟩) (by simp; omega)).trans (by go_simp)
  have r1 : w1.cell? ⟨w.heap.size, 1, none⟩ = some (.int .i64 a2) := (hb1.cell (p := ⟨w.heap.size, 1, none⟩) (by simp; omega)).trans (by go_simp)
  have hz1 : w.heap.size + 1 < w1.heap.size := by have := hb1.size; simp at this; omega
  go_wp2_with (fail)
  refine (text_any b1 b2 _ _ _ HT.out).mono ?_
  rintro e w2 ⟨rfl, hb2⟩
  go_wp2_with (fail)
  refine (awake_any _).mono ?_
  rintro e w3 ⟨rfl, hb3⟩
  go_wp2
  go_ret
  refine ⟨rfl, ?_⟩
  repeat first | exact Below.refl _ _ | refine Below.drew ?_ | refine bl_alloc ?_ _ | refine bl_then ?_ hb3 | refine bl_then ?_ hb2 | refine bl_then ?_ hb1
set_option maxHeartbeats 1000000 in
theorem order_b (a1 a2 b1 b2 : Int) (w : World) (s : ByteArray) (hs : textV (a1, a2) = (s, 0)) (ht : textV (b1, b2) = (⟨#[]⟩, 2)) :
    Calls Try.prog 11 #[.agg #[.int .i64 a1, .int .i64 a2], .agg #[.int .i64 b1, .int .i64 b2]] w fun e w' => e = .returned (.bool true) ∧ Below w.heap.size w w' := by
  have HS := Lib.hid hs
  have HT := Lib.hid ht
  clear hs ht
  go_enter Try.func11, Try.ntmps11
  go_wp2_with (fail)
  refine (text_any a1 a2 _ _ _ HS.out).mono ?_
  rintro e w1 ⟨rfl, hb1⟩
  have q0 : w1.cell? ⟨w.heap.size + 1, 0, none⟩ = some (.int .i64 b1) := (hb1.cell (p := ⟨w.heap.size + 1, 0, none⟩) (by simp)).trans (by go_simp)
  have q1 : w1.cell? ⟨w.heap.size + 1, 1, none⟩ = some (.int .i64 b2) := (hb1.cell (p := ⟨w.heap.size + 1, 1, none⟩) (by simp)).trans (by go_simp)
  have r0 : w1.cell? ⟨w.heap.size, 0, none⟩ = some (.int .i64 a1) := (hb1.cell (p := ⟨w.heap.size, 0, none⟩) (by simp; omega)).trans (by go_simp)
  have r1 : w1.cell? ⟨w.heap.size, 1, none⟩ = some (.int .i64 a2) := (hb1.cell (p := ⟨w.heap.size, 1, none⟩) (by simp; omega)).trans (by go_simp)
  have hz1 : w.heap.size + 1 < w1.heap.size := by have := hb1.size; simp at this; omega
  go_wp2_with (fail)
  refine (text_any b1 b2 _ _ _ HT.out).mono ?_
  rintro e w2 ⟨rfl, hb2⟩
  go_wp2_with (fail)
  refine (awake_any _).mono ?_
  rintro e w3 ⟨rfl, hb3⟩
  go_wp2
  go_ret
  refine ⟨rfl, ?_⟩
  repeat first | exact Below.refl _ _ | refine Below.drew ?_ | refine bl_alloc ?_ _ | refine bl_then ?_ hb3 | refine bl_then ?_ hb2 | refine bl_then ?_ hb1
set_option maxHeartbeats 1000000 in
theorem order_1 (a1 a2 b1 b2 : Int) (w : World) (s t : ByteArray) (hs : textV (a1, a2) = (s, 0)) (ht : textV (b1, b2) = (t, 0)) (hr : readV s = (a1, a2, 0)) (h1 : a1 < b1) (h2 : ¬ a1 = b1) (hL : Op.bytesLess s.toList t.toList = true) (hE : ¬ s.toList = t.toList) :
    Calls Try.prog 11 #[.agg #[.int .i64 a1, .int .i64 a2], .agg #[.int .i64 b1, .int .i64 b2]] w fun e w' => e = .returned (.bool true) ∧ Below w.heap.size w w' := by
  have HS := Lib.hid hs
  have HT := Lib.hid ht
  clear hs ht
  have HRD := Lib.hid hr
  clear hr
  go_enter Try.func11, Try.ntmps11
  go_wp2_with (fail)
  refine (text_any a1 a2 _ _ _ HS.out).mono ?_
  rintro e w1 ⟨rfl, hb1⟩
  have q0 : w1.cell? ⟨w.heap.size + 1, 0, none⟩ = some (.int .i64 b1) := (hb1.cell (p := ⟨w.heap.size + 1, 0, none⟩) (by simp)).trans (by go_simp)
  have q1 : w1.cell? ⟨w.heap.size + 1, 1, none⟩ = some (.int .i64 b2) := (hb1.cell (p := ⟨w.heap.size + 1, 1, none⟩) (by simp)).trans (by go_simp)
  have r0 : w1.cell? ⟨w.heap.size, 0, none⟩ = some (.int .i64 a1) := (hb1.cell (p := ⟨w.heap.size, 0, none⟩) (by simp; omega)).trans (by go_simp)
  have r1 : w1.cell? ⟨w.heap.size, 1, none⟩ = some (.int .i64 a2) := (hb1.cell (p := ⟨w.heap.size, 1, none⟩) (by simp; omega)).trans (by go_simp)
  have hz1 : w.heap.size + 1 < w1.heap.size := by have := hb1.size; simp at this; omega
  go_wp2_with (fail)
  refine (text_any b1 b2 _ _ _ HT.out).mono ?_
  rintro e w2 ⟨rfl, hb2⟩
  have q0 := (hb2.cell (p := ⟨w.heap.size + 1, 0, none⟩) (by simp; omega)).trans q0
  have q1 := (hb2.cell (p := ⟨w.heap.size + 1, 1, none⟩) (by simp; omega)).trans q1
  have r0 := (hb2.cell (p := ⟨w.heap.size, 0, none⟩) (by simp; omega)).trans r0
  have r1 := (hb2.cell (p := ⟨w.heap.size, 1, none⟩) (by simp; omega)).trans r1
  have hz2 : w.heap.size + 1 < w2.heap.size := by have := hb2.size; omega
  have hz20 : w.heap.size < w2.heap.size := by omega
  go_wp2_with (fail)
  refine (read_any s a1 a2 0 _ HRD.out).mono ?_
  rintro e w3 ⟨rfl, hb3⟩
  have q0 := (hb3.cell (p := ⟨w.heap.size + 1, 0, none⟩) (by simp; omega)).trans q0
  have q1 := (hb3.cell (p := ⟨w.heap.size + 1, 1, none⟩) (by simp; omega)).trans q1
  have r0 := (hb3.cell (p := ⟨w.heap.size, 0, none⟩) (by simp; omega)).trans r0
  have r1 := (hb3.cell (p := ⟨w.heap.size, 1, none⟩) (by simp; omega)).trans r1
  have hz3 : w.heap.size + 1 < w3.heap.size := by have := hb3.size; omega
  have hz30 : w.heap.size < w3.heap.size := by omega
  go_wp2_with (fail)
  refine (awake_any _).mono ?_
  rintro e w4 ⟨rfl, hb4⟩
  go_wp2
  go_ret
  refine ⟨show Ending.returned (.bool (!(s.toList == t.toList))) = _ from ret_bool (by simp [hE]), ?_⟩
  repeat first | exact Below.refl _ _ | refine Below.drew ?_ | refine bl_alloc ?_ _ | refine bl_then ?_ hb4 | refine bl_then ?_ hb3 | refine bl_then ?_ hb2 | refine bl_then ?_ hb1
set_option maxHeartbeats 1000000 in
theorem order_2 (a1 a2 b2 : Int) (w : World) (s t : ByteArray) (hs : textV (a1, a2) = (s, 0)) (ht : textV (a1, b2) = (t, 0)) (hr : readV s = (a1, a2, 0)) (h2 : a2 < b2) (h3 : ¬ a2 = b2) (hL : Op.bytesLess s.toList t.toList = true) (hE : ¬ s.toList = t.toList) :
    Calls Try.prog 11 #[.agg #[.int .i64 a1, .int .i64 a2], .agg #[.int .i64 a1, .int .i64 b2]] w fun e w' => e = .returned (.bool true) ∧ Below w.heap.size w w' := by
  have HS := Lib.hid hs
  have HT := Lib.hid ht
  clear hs ht
  have HRD := Lib.hid hr
  clear hr
  go_enter Try.func11, Try.ntmps11
  go_wp2_with (fail)
  refine (text_any a1 a2 _ _ _ HS.out).mono ?_
  rintro e w1 ⟨rfl, hb1⟩
  have q0 : w1.cell? ⟨w.heap.size + 1, 0, none⟩ = some (.int .i64 a1) := (hb1.cell (p := ⟨w.heap.size + 1, 0, none⟩) (by simp)).trans (by go_simp)
  have q1 : w1.cell? ⟨w.heap.size + 1, 1, none⟩ = some (.int .i64 b2) := (hb1.cell (p := ⟨w.heap.size + 1, 1, none⟩) (by simp)).trans (by go_simp)
  have r0 : w1.cell? ⟨w.heap.size, 0, none⟩ = some (.int .i64 a1) := (hb1.cell (p := ⟨w.heap.size, 0, none⟩) (by simp; omega)).trans (by go_simp)
  have r1 : w1.cell? ⟨w.heap.size, 1, none⟩ = some (.int .i64 a2) := (hb1.cell (p := ⟨w.heap.size, 1, none⟩) (by simp; omega)).trans (by go_simp)
  have hz1 : w.heap.size + 1 < w1.heap.size := by have := hb1.size; simp at this; omega
  go_wp2_with (fail)
  refine (text_any a1 b2 _ _ _ HT.out).mono ?_
  rintro e w2 ⟨rfl, hb2⟩
  have q0 := (hb2.cell (p := ⟨w.heap.size + 1, 0, none⟩) (by simp; omega)).trans q0
  have q1 := (hb2.cell (p := ⟨w.heap.size + 1, 1, none⟩) (by simp; omega)).trans q1
  have r0 := (hb2.cell (p := ⟨w.heap.size, 0, none⟩) (by simp; omega)).trans r0
  have r1 := (hb2.cell (p := ⟨w.heap.size, 1, none⟩) (by simp; omega)).trans r1
  have hz2 : w.heap.size + 1 < w2.heap.size := by have := hb2.size; omega
  have hz20 : w.heap.size < w2.heap.size := by omega
  go_wp2_with (fail)
  refine (read_any s a1 a2 0 _ HRD.out).mono ?_
  rintro e w3 ⟨rfl, hb3⟩
  have q0 := (hb3.cell (p := ⟨w.heap.size + 1, 0, none⟩) (by simp; omega)).trans q0
  have q1 := (hb3.cell (p := ⟨w.heap.size + 1, 1, none⟩) (by simp; omega)).trans q1
  have r0 := (hb3.cell (p := ⟨w.heap.size, 0, none⟩) (by simp; omega)).trans r0
  have r1 := (hb3.cell (p := ⟨w.heap.size, 1, none⟩) (by simp; omega)).trans r1
  have hz3 : w.heap.size + 1 < w3.heap.size := by have := hb3.size; omega
  have hz30 : w.heap.size < w3.heap.size := by omega
  go_wp2_with (fail)
  refine (awake_any _).mono ?_
  rintro e w4 ⟨rfl, hb4⟩
  go_wp2
  go_ret
  refine ⟨show Ending.returned (.bool (!(s.toList == t.toList))) = _ from ret_bool (by simp [hE]), ?_⟩
  repeat first | exact Below.refl _ _ | refine Below.drew ?_ | refine bl_alloc ?_ _ | refine bl_then ?_ hb4 | refine bl_then ?_ hb3 | refine bl_then ?_ hb2 | refine bl_then ?_ hb1
set_option maxHeartbeats 1000000 in
theorem order_4 (a1 a2 b2 : Int) (w : World) (s t : ByteArray) (hs : textV (a1, a2) = (s, 0)) (ht : textV (a1, b2) = (t, 0)) (hr : readV s = (a1, a2, 0)) (h2 : b2 < a2) (h3 : ¬ a2 = b2) (h4 : ¬ a2 < b2) (hL : Op.bytesLess s.toList t.toList = false) (hE : ¬ s.toList = t.toList) :
    Calls Try.prog 11 #[.agg #[.int .i64 a1, .int .i64 a2], .agg #[.int .i64 a1, .int .i64 b2]] w fun e w' => e = .returned (.bool true) ∧ Below w.heap.size w w' := by
  have HS := Lib.hid hs
  have HT := Lib.hid ht
  clear hs ht
  have HRD := Lib.hid hr
  clear hr
  go_enter Try.func11, Try.ntmps11
  go_wp2_with (fail)
  refine (text_any a1 a2 _ _ _ HS.out).mono ?_
  rintro e w1 ⟨rfl, hb1⟩
  have q0 : w1.cell? ⟨w.heap.size + 1, 0, none⟩ = some (.int .i64 a1) := (hb1.cell (p := ⟨w.heap.size + 1, 0, none⟩) (by simp)).trans (by go_simp)
  have q1 : w1.cell? ⟨w.heap.size + 1, 1, none⟩ = some (.int .i64 b2) := (hb1.cell (p := ⟨w.heap.size + 1, 1, none⟩) (by simp)).trans (by go_simp)
  have r0 : w1.cell? ⟨w.heap.size, 0, none⟩ = some (.int .i64 a1) := (hb1.cell (p := ⟨w.heap.size, 0, none⟩) (by simp; omega)).trans (by go_simp)
  have r1 : w1.cell? ⟨w.heap.size, 1, none⟩ = some (.int .i64 a2) := (hb1.cell (p := ⟨w.heap.size, 1, none⟩) (by simp; omega)).trans (by go_simp)
  have hz1 : w.heap.size + 1 < w1.heap.size := by have := hb1.size; simp at this; omega
  go_wp2_with (fail)
  refine (text_any a1 b2 _ _ _ HT.out).mono ?_
  rintro e w2 ⟨rfl, hb2⟩
  have q0 := (hb2.cell (p := ⟨w.heap.size + 1, 0, none⟩) (by simp; omega)).trans q0
  have q1 := (hb2.cell (p := ⟨w.heap.size + 1, 1, none⟩) (by simp; omega)).trans q1
  have r0 := (hb2.cell (p := ⟨w.heap.size, 0, none⟩) (by simp; omega)).trans r0
  have r1 := (hb2.cell (p := ⟨w.heap.size, 1, none⟩) (by simp; omega)).trans r1
  have hz2 : w.heap.size + 1 < w2.heap.size := by have := hb2.size; omega
  have hz20 : w.heap.size < w2.heap.size := by omega
  go_wp2_with (fail)
  refine (read_any s a1 a2 0 _ HRD.out).mono ?_
  rintro e w3 ⟨rfl, hb3⟩
  have q0 := (hb3.cell (p := ⟨w.heap.size + 1, 0, none⟩) (by simp; omega)).trans q0
  have q1 := (hb3.cell (p := ⟨w.heap.size + 1, 1, none⟩) (by simp; omega)).trans q1
  have r0 := (hb3.cell (p := ⟨w.heap.size, 0, none⟩) (by simp; omega)).trans r0
  have r1 := (hb3.cell (p := ⟨w.heap.size, 1, none⟩) (by simp; omega)).trans r1
  have hz3 : w.heap.size + 1 < w3.heap.size := by have := hb3.size; omega
  have hz30 : w.heap.size < w3.heap.size := by omega
  go_wp2_with (fail)
  refine (awake_any _).mono ?_
  rintro e w4 ⟨rfl, hb4⟩
  go_wp2
  go_ret
  refine ⟨show Ending.returned (.bool (!decide (a2 < b2) && !(s.toList == t.toList))) = _ from ret_bool (by simp [hE]; omega), ?_⟩
  repeat first | exact Below.refl _ _ | refine Below.drew ?_ | refine bl_alloc ?_ _ | refine bl_then ?_ hb4 | refine bl_then ?_ hb3 | refine bl_then ?_ hb2 | refine bl_then ?_ hb1
set_option maxHeartbeats 1000000 in
theorem order_5 (a1 a2 b1 b2 : Int) (w : World) (s t : ByteArray) (hs : textV (a1, a2) = (s, 0)) (ht : textV (b1, b2) = (t, 0)) (hr : readV s = (a1, a2, 0)) (h1 : b1 < a1) (h2 : ¬ a1 = b1) (h4 : ¬ a1 < b1) (hL : Op.bytesLess s.toList t.toList = false) (hE : ¬ s.toList = t.toList) :
    Calls Try.prog 11 #[.agg #[.int .i64 a1, .int .i64 a2], .agg #[.int .i64 b1, .int .i64 b2]] w fun e w' => e = .returned (.bool true) ∧ Below w.heap.size w w' := by
  have HS := Lib.hid hs
  have HT := Lib.hid ht
  clear hs ht
  have HRD := Lib.hid hr
  clear hr
  go_enter Try.func11, Try.ntmps11
  go_wp2_with (fail)
  refine (text_any a1 a2 _ _ _ HS.out).mono ?_
  rintro e w1 ⟨rfl, hb1⟩
  have q0 : w1.cell? ⟨w.heap.size + 1, 0, none⟩ = some (.int .i64 b1) := (hb1.cell (p := ⟨w.heap.size + 1, 0, none⟩) (by simp)).trans (by go_simp)
  have q1 : w1.cell? ⟨w.heap.size + 1, 1, none⟩ = some (.int .i64 b2) := (hb1.cell (p := ⟨w.heap.size + 1, 1, none⟩) (by simp)).trans (by go_simp)
  have r0 : w1.cell? ⟨w.heap.size, 0, none⟩ = some (.int .i64 a1) := (hb1.cell (p := ⟨w.heap.size, 0, none⟩) (by simp; omega)).trans (by go_simp)
  have r1 : w1.cell? ⟨w.heap.size, 1, none⟩ = some (.int .i64 a2) := (hb1.cell (p := ⟨w.heap.size, 1, none⟩) (by simp; omega)).trans (by go_simp)
  have hz1 : w.heap.size + 1 < w1.heap.size := by have := hb1.size; simp at this; omega
  go_wp2_with (fail)
  refine (text_any b1 b2 _ _ _ HT.out).mono ?_
  rintro e w2 ⟨rfl, hb2⟩
  have q0 := (hb2.cell (p := ⟨w.heap.size + 1, 0, none⟩) (by simp; omega)).trans q0
  have q1 := (hb2.cell (p := ⟨w.heap.size + 1, 1, none⟩) (by simp; omega)).trans q1
  have r0 := (hb2.cell (p := ⟨w.heap.size, 0, none⟩) (by simp; omega)).trans r0
  have r1 := (hb2.cell (p := ⟨w.heap.size, 1, none⟩) (by simp; omega)).trans r1
  have hz2 : w.heap.size + 1 < w2.heap.size := by have := hb2.size; omega
  have hz20 : w.heap.size < w2.heap.size := by omega
  go_wp2_with (fail)
  refine (read_any s a1 a2 0 _ HRD.out).mono ?_
  rintro e w3 ⟨rfl, hb3⟩
  have q0 := (hb3.cell (p := ⟨w.heap.size + 1, 0, none⟩) (by simp; omega)).trans q0
  have q1 := (hb3.cell (p := ⟨w.heap.size + 1, 1, none⟩) (by simp; omega)).trans q1
  have r0 := (hb3.cell (p := ⟨w.heap.size, 0, none⟩) (by simp; omega)).trans r0
  have r1 := (hb3.cell (p := ⟨w.heap.size, 1, none⟩) (by simp; omega)).trans r1
  have hz3 : w.heap.size + 1 < w3.heap.size := by have := hb3.size; omega
  have hz30 : w.heap.size < w3.heap.size := by omega
  go_wp2_with (fail)
  refine (awake_any _).mono ?_
  rintro e w4 ⟨rfl, hb4⟩
  go_wp2
  go_ret
  refine ⟨show Ending.returned (.bool (!decide (a1 < b1) && !(s.toList == t.toList))) = _ from ret_bool (by simp [hE]; omega), ?_⟩
  repeat first | exact Below.refl _ _ | refine Below.drew ?_ | refine bl_alloc ?_ _ | refine bl_then ?_ hb4 | refine bl_then ?_ hb3 | refine bl_then ?_ hb2 | refine bl_then ?_ hb1
set_option maxHeartbeats 1000000 in
theorem order_3 (a1 a2 : Int) (w : World) (s : ByteArray) (hs : textV (a1, a2) = (s, 0)) (ht : textV (a1, a2) = (s, 0)) (hr : readV s = (a1, a2, 0)) (hL : Op.bytesLess s.toList s.toList = false) :
    Calls Try.prog 11 #[.agg #[.int .i64 a1, .int .i64 a2], .agg #[.int .i64 a1, .int .i64 a2]] w fun e w' => e = .returned (.bool true) ∧ Below w.heap.size w w' := by
  have HS := Lib.hid hs
  have HT := Lib.hid ht
  clear hs ht
  have HRD := Lib.hid hr
  clear hr
  go_enter Try.func11, Try.ntmps11
  go_wp2_with (fail)
  refine (text_any a1 a2 _ _ _ HS.out).mono ?_
  rintro e w1 ⟨rfl, hb1⟩
  have q0 : w1.cell? ⟨w.heap.size + 1, 0, none⟩ = some (.int .i64 a1) := (hb1.cell (p := ⟨w.heap.size + 1, 0, none⟩) (by simp)).trans (by go_simp)
  have q1 : w1.cell? ⟨w.heap.size + 1, 1, none⟩ = some (.int .i64 a2) := (hb1.cell (p := ⟨w.heap.size + 1, 1, none⟩) (by simp)).trans (by go_simp)
  have r0 : w1.cell? ⟨w.heap.size, 0, none⟩ = some (.int .i64 a1) := (hb1.cell (p := ⟨w.heap.size, 0, none⟩) (by simp; omega)).trans (by go_simp)
  have r1 : w1.cell? ⟨w.heap.size, 1, none⟩ = some (.int .i64 a2) := (hb1.cell (p := ⟨w.heap.size, 1, none⟩) (by simp; omega)).trans (by go_simp)
  have hz1 : w.heap.size + 1 < w1.heap.size := by have := hb1.size; simp at this; omega
  go_wp2_with (fail)
  refine (text_any a1 a2 _ _ _ HT.out).mono ?_
  rintro e w2 ⟨rfl, hb2⟩
  have q0 := (hb2.cell (p := ⟨w.heap.size + 1, 0, none⟩) (by simp; omega)).trans q0
  have q1 := (hb2.cell (p := ⟨w.heap.size + 1, 1, none⟩) (by simp; omega)).trans q1
  have r0 := (hb2.cell (p := ⟨w.heap.size, 0, none⟩) (by simp; omega)).trans r0
  have r1 := (hb2.cell (p := ⟨w.heap.size, 1, none⟩) (by simp; omega)).trans r1
  have hz2 : w.heap.size + 1 < w2.heap.size := by have := hb2.size; omega
  have hz20 : w.heap.size < w2.heap.size := by omega
  go_wp2_with (fail)
  refine (read_any s a1 a2 0 _ HRD.out).mono ?_
  rintro e w3 ⟨rfl, hb3⟩
  have q0 := (hb3.cell (p := ⟨w.heap.size + 1, 0, none⟩) (by simp; omega)).trans q0
  have q1 := (hb3.cell (p := ⟨w.heap.size + 1, 1, none⟩) (by simp; omega)).trans q1
  have r0 := (hb3.cell (p := ⟨w.heap.size, 0, none⟩) (by simp; omega)).trans r0
  have r1 := (hb3.cell (p := ⟨w.heap.size, 1, none⟩) (by simp; omega)).trans r1
  have hz3 : w.heap.size + 1 < w3.heap.size := by have := hb3.size; omega
  have hz30 : w.heap.size < w3.heap.size := by omega
  go_wp2_with (fail)
  refine (awake_any _).mono ?_
  rintro e w4 ⟨rfl, hb4⟩
  go_wp2
  go_ret
  refine ⟨rfl, ?_⟩
  repeat first | exact Below.refl _ _ | refine Below.drew ?_ | refine bl_alloc ?_ _ | refine bl_then ?_ hb4 | refine bl_then ?_ hb3 | refine bl_then ?_ hb2 | refine bl_then ?_ hb1
theorem order_walk (a1 a2 b1 b2 : Int) (w : World) (h1 : (Lit.int .i64 a1).wf = true) (h2 : (Lit.int .i64 a2).wf = true) (h3 : (Lit.int .i64 b1).wf = true) (h4 : (Lit.int .i64 b2).wf = true) :
    Calls Try.prog 11 #[.agg #[.int .i64 a1, .int .i64 a2], .agg #[.int .i64 b1, .int .i64 b2]] w fun e w' => e = .returned (.bool true) ∧ Below w.heap.size w w' := by
  cases ha : mayB (a1, a2)
  · have hs : textV (a1, a2) = (⟨#[]⟩, 2) := by unfold textV; rw [ha]; rfl
    exact order_a a1 a2 b1 b2 w _ _ hs rfl
  have hs : textV (a1, a2) = (txt a1 ++ txt a2, 0) := by unfold textV; rw [ha]; rfl
  cases hb : mayB (b1, b2)
  · have ht : textV (b1, b2) = (⟨#[]⟩, 2) := by unfold textV; rw [hb]; rfl
    exact order_b a1 a2 b1 b2 w _ hs ht
  have ht : textV (b1, b2) = (txt b1 ++ txt b2, 0) := by unfold textV; rw [hb]; rfl
  have hr := read_text (a1, a2) ha
  have hr2 := read_text (b1, b2) hb
  have hL := less_text (a1, a2) (b1, b2) ha hb
  dsimp only at hr hr2 hL
  have hE : ¬ (a1 = b1 ∧ a2 = b2) → ¬ (txt a1 ++ txt a2).toList = (txt b1 ++ txt b2).toList := by
    intro hne hc
    have : txt a1 ++ txt a2 = txt b1 ++ txt b2 := by
      rw [ByteArray.toList_eq, ByteArray.toList_eq] at hc
      exact ByteArray.ext (Array.ext' hc)
    rw [this, hr2] at hr
    simp only [Prod.mk.injEq] at hr
    exact hne ⟨hr.1.symm, hr.2.1.symm⟩
  rcases Int.lt_trichotomy a1 b1 with h | h | h
  · exact order_1 a1 a2 b1 b2 w _ _ hs ht hr h (by omega) (by rw [hL]; simp [h]) (hE (by omega))
  · subst h
    rcases Int.lt_trichotomy a2 b2 with h | h | h
    · exact order_2 a1 a2 b2 w _ _ hs ht hr h (by omega) (by rw [hL]; simp [h]) (hE (by omega))
    · subst h
      exact order_3 a1 a2 w _ hs hs hr (by rw [hL]; simp)
    · exact order_4 a1 a2 b2 w _ _ hs ht hr h (by omega) (by omega) (by rw [hL]; simp; omega) (hE (by omega))
  · exact order_5 a1 a2 b1 b2 w _ _ hs ht hr h (by omega) (by omega) (by rw [hL]; simp; omega) (hE (by omega))
end Go.Proofs.Ytgpmceimhfkncaa.WT
