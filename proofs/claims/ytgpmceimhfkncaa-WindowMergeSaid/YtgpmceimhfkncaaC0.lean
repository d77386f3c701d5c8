/- The walk of the law WindowTiles: it returns true, for every size and time. Conditions: as each theorem states them. -/
import Derived.Test.YtgpmceimhfkncaaB3
namespace Go.Proofs.Ytgpmceimhfkncaa
open Go.RowKit
set_option linter.unusedVariables false
set_option linter.unusedSimpArgs false

theorem flr_mul (q b : Int) (hb : 1 ≤ b) : flr (q * b) b = q * b := by
  unfold flr
  rw [Int.mul_ediv_cancel _ (by omega)]
theorem flr_next (t b : Int) (hb : 1 ≤ b) : flr (flr t b + b) b = flr t b + b := by
  have : flr t b + b = (t / b + 1) * b := by unfold flr; rw [Int.add_mul, Int.one_mul]
  rw [this, flr_mul _ _ hb]
theorem chkV_one {S : Int} : chkV 1 S 0 = 0 ↔ 1 ≤ S ∧ S ≤ 1099511627776 := by
  unfold chkV plainB spanB
  by_cases h1 : 1 ≤ S <;> by_cases h2 : S ≤ 1099511627776 <;> simp [h1, h2]

set_option maxHeartbeats 1000000 in
theorem tiles_walk (size t : Int) (w : World) (hs : (Lit.int .i64 size).wf = true) (ht : (Lit.int .i64 t).wf = true) :
    Calls Try.prog 7 #[.int .i64 size, .int .i64 t] w fun e w' => e = .returned (.bool true) ∧ Below w.heap.size w w' := by
  by_cases hok : chkV 1 size 0 = 0 ∧ -1125899906842624 ≤ t ∧ t ≤ 1125899906842624
  · have ha : asgV 1 size 0 t = ([(flr t size, flr t size + size)], 0) := by
      unfold asgV winsL
      rw [if_pos hok, if_pos rfl]
    obtain ⟨h0, h1, h2⟩ := hok
    obtain ⟨g1, g2⟩ := chkV_one.1 h0
    have hf := flr_le t size g1
    have HA := Lib.hid ha
    clear ha
    by_cases hto : flr t size + size ≤ 1125899906842624
    · have hb : asgV 1 size 0 (flr t size + size) = ([(flr t size + size, flr t size + size + size)], 0) := by
        unfold asgV winsL
        rw [if_pos ⟨h0, by omega, by omega⟩, if_pos rfl, flr_next t size g1]
      have HB := Lib.hid hb
      clear hb h0
      generalize flr t size = F at *
      go_enter Try.func7, Try.ntmps7
      go_wp2_with (fail)
      refine (assign_any 1 size 0 t _ _ _ HA.out).mono ?_
      rintro e w1 ⟨v1, rfl, hown1, hb1⟩
      obtain ⟨A1, c1, rfl, hc1, hr1⟩ := own_reads hown1
      obtain ⟨b1, o1, rfl, hl1, g11, g12⟩ := hr1.at_ (k := 0) (by simp)
      clear hown1
      simp only [List.length_cons, List.length_nil, Nat.zero_add, Nat.zero_mul, Nat.add_zero, List.getD_cons_zero] at hc1 g11 g12 ⊢
      have q0 : w1.cell? ⟨w.heap.size, 0, none⟩ = some (.int .i64 1) := (hb1.cell (p := ⟨w.heap.size, 0, none⟩) (by simp)).trans (by go_simp)
      have q1 : w1.cell? ⟨w.heap.size, 1, none⟩ = some (.int .i64 size) := (hb1.cell (p := ⟨w.heap.size, 1, none⟩) (by simp)).trans (by go_simp)
      have q2 : w1.cell? ⟨w.heap.size, 2, none⟩ = some (.int .i64 0) := (hb1.cell (p := ⟨w.heap.size, 2, none⟩) (by simp)).trans (by go_simp)
      have hz : w.heap.size < w1.heap.size := by have := hb1.size; simp at this; omega
      go_wp2_with (fail)
      go_region_held3 (fun w' => w'.cell? ⟨w.heap.size, 0, none⟩ = some (.int .i64 1) ∧ w'.cell? ⟨w.heap.size, 1, none⟩ = some (.int .i64 size) ∧ w'.cell? ⟨w.heap.size, 2, none⟩ = some (.int .i64 0) ∧ w'.cell? ⟨b1, o1 + 1, none⟩ = some (.int .i64 (F + size)))
        (first | go_keep | exact ⟨(hb2.cell (p := ⟨w.heap.size, 0, none⟩) (by simp; omega)).trans q0, (hb2.cell (p := ⟨w.heap.size, 1, none⟩) (by simp; omega)).trans q1, (hb2.cell (p := ⟨w.heap.size, 2, none⟩) (by simp; omega)).trans q2, (hb2.cell (p := ⟨b1, o1 + 1, none⟩) (by simp; omega)).trans g12⟩)
        (first | (go_at_call 12; refine (assign_any 1 size 0 (F + size) _ _ _ HB.out).mono ?_; rintro e w2 ⟨v2, rfl, hown2, hb2⟩))
      obtain ⟨A2, c2, rfl, hc2, hr2⟩ := own_reads hown2
      obtain ⟨b2, o2, rfl, hl2, g21, g22⟩ := hr2.at_ (k := 0) (by simp)
      simp only [List.length_cons, List.length_nil, Nat.zero_add, Nat.zero_mul, Nat.add_zero, List.getD_cons_zero] at hc2 g21 g22 ⊢
      have r12 : w2.cell? ⟨b1, o1 + 1, none⟩ = some (.int .i64 (F + size)) := (hb2.cell (p := ⟨b1, o1 + 1, none⟩) (by simp; omega)).trans g12
      go_wp2_with (fail)
      have e1 := ext_cell r12
      have e2 := ext_cell g21
      have e3 := ext_cell g22
      refine wp_region_ext (by kernel_rfl) (by kernel_rfl) ?_
      repeat (go_big_quiet_step ((go_at_call 17; exact ext_calls (awake_any _))))
      refine wpQuiet_nil ?_
      rintro _ ⟨⟨w3, hb3⟩, rfl⟩
      clear e1 e2 e3
      go_wp2
      go_ret
      refine ⟨rfl, ?_⟩
      repeat first | exact Below.refl _ _ | refine Below.drew ?_ | refine bl_alloc ?_ _ | refine bl_then ?_ hb3 | refine bl_then ?_ hb2 | refine bl_then ?_ hb1
    · have hto2 : 1125899906842624 < flr t size + size := by omega
      have hto3 : flr t size ≤ 1125899906842624 := by omega
      clear h0 hto
      generalize flr t size = F at *
      go_enter Try.func7, Try.ntmps7
      go_wp2_with (fail)
      refine (assign_any 1 size 0 t _ _ _ HA.out).mono ?_
      rintro e w1 ⟨v1, rfl, hown1, hb1⟩
      obtain ⟨A1, c1, rfl, hc1, hr1⟩ := own_reads hown1
      obtain ⟨b1, o1, rfl, hl1, g11, g12⟩ := hr1.at_ (k := 0) (by simp)
      clear hown1
      simp only [List.length_cons, List.length_nil, Nat.zero_add, Nat.zero_mul, Nat.add_zero, List.getD_cons_zero] at hc1 g11 g12 ⊢
      go_wp2_with (go_at_call 17; refine (awake_any _).mono ?_; rintro e w3 ⟨rfl, hb3⟩)
      go_ret
      refine ⟨rfl, ?_⟩
      repeat first | exact Below.refl _ _ | refine Below.drew ?_ | refine bl_alloc ?_ _ | refine bl_then ?_ hb3 | refine bl_then ?_ hb1
  · have ha : asgV 1 size 0 t = ([], 2) := by
      unfold asgV
      rw [if_neg hok]
    have HA := Lib.hid ha
    clear ha hok
    go_enter Try.func7, Try.ntmps7
    go_wp2_with (fail)
    refine (assign_any 1 size 0 t _ _ _ HA.out).mono ?_
    rintro e w1 ⟨v1, rfl, hown1, hb1⟩
    clear hown1
    go_wp2_with (go_at_call 17; refine (awake_any _).mono ?_; rintro e w3 ⟨rfl, hb3⟩)
    go_ret
    refine ⟨rfl, ?_⟩
    repeat first | exact Below.refl _ _ | refine Below.drew ?_ | refine bl_alloc ?_ _ | refine bl_then ?_ hb3 | refine bl_then ?_ hb1
end Go.Proofs.Ytgpmceimhfkncaa
