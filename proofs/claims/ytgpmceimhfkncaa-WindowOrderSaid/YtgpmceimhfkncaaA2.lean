/- The contract of window.Assign, for every input. Conditions: as each theorem states them. -/
import Derived.Test.YtgpmceimhfkncaaA1
namespace Go.Proofs.Ytgpmceimhfkncaa
open Go.RowKit
set_option linter.unusedVariables false
set_option linter.unusedSimpArgs false

def chkV (K S L : Int) : Int := if K = 1 ∨ K = 3 then (bif plainB S L then 0 else 2) else if K = 2 then (bif slidB S L then 0 else 2) else 2
theorem check_any (K S L : Int) (w : World) :
    Calls Try.prog 15 #[.agg #[.int .i64 K, .int .i64 S, .int .i64 L]] w fun e w' => e = .returned (.int .i64 (chkV K S L)) ∧ Below w.heap.size w w' := by
  unfold chkV
  by_cases h1 : K = 1
  · subst h1; simpa using check_1 S L w
  by_cases h2 : K = 2
  · subst h2; simpa using check_2 S L w
  by_cases h3 : K = 3
  · subst h3; simpa using check_3 S L w
  rw [if_neg (by omega), if_neg h2]
  by_cases h4 : K < 1
  · exact check_low K S L h4 w
  · exact check_high K S L (by omega) w

theorem chkV_or (K S L : Int) : chkV K S L = 0 ∨ chkV K S L = 2 := by
  unfold chkV
  cases plainB S L <;> cases slidB S L <;> simp only [cond_true, cond_false] <;> (repeat' split) <;> omega

theorem check_is (K S L c : Int) (w : World) (h : chkV K S L = c) :
    Calls Try.prog 15 #[.agg #[.int .i64 K, .int .i64 S, .int .i64 L]] w fun e w' => e = .returned (.int .i64 c) ∧ Below w.heap.size w w' := h ▸ check_any K S L w

def asgNo (K S L t : Int) : Prop := chkV K S L = 2 ∨ (chkV K S L = 0 ∧ (t < -1125899906842624 ∨ (¬ t < -1125899906842624 ∧ 1125899906842624 < t)))

theorem assign_no (K S L t : Int) (w : World) (h : asgNo K S L t) :
    Calls Try.prog 12 #[.agg #[.int .i64 K, .int .i64 S, .int .i64 L], .int .i64 t] w fun e w' => e = .returned (.tuple #[.slice none 0 0, .int .i64 2]) ∧ Below w.heap.size w w' := by
  rcases h with hq | ⟨hq, h | ⟨h, h2⟩⟩
  all_goals
    have HQ := Lib.hid hq
    clear hq
    go_enter Try.func12, Try.ntmps12
    go_wp2_with (go_at_call 15; refine (check_is _ _ _ _ _ HQ.out).mono ?_; rintro e w' ⟨rfl, hb⟩)
    go_ret2
    refine ⟨rfl, ?_⟩
    repeat first | exact Below.refl _ _ | refine Below.drew ?_ | refine bl_drewN ?_ _ | refine bl_alloc ?_ _ | refine bl_then ?_ (by assumption)

theorem own_back {w W w' : World} (hb : Below w.heap.size w W) {e size n : Nat} {v : Value} {xs : List Value} (h : w'.ownsRow W.heap.size e size v n xs) : w'.ownsRow w.heap.size e size v n xs := own_weaken h hb.size

def winsL (K S L t : Int) : List (Int × Int) := if K = 1 then [(flr t S, flr t S + S)] else if K = 2 then slL t S L (slN t S L) else [(t, t + S)]

theorem plainB_bd {S L : Int} (h : plainB S L = true) : 1 ≤ S ∧ S ≤ 1099511627776 ∧ L = 0 := by
  simp [plainB, spanB] at h
  omega
theorem slidB_bd {S L : Int} (h : slidB S L = true) : 1 ≤ S ∧ S ≤ 1099511627776 ∧ 1 ≤ L ∧ L ≤ 1099511627776 ∧ S ≤ 8 * L := by
  simp [slidB, spanB] at h
  omega

theorem fin_own {w W w2 : World} {e s n : Nat} {v : Value} {xs : List Value} (h : Below w.heap.size w W) (hb2 : Below W.heap.size W w2) (hown : w2.ownsRow W.heap.size e s v n xs) : w2.ownsRow w.heap.size e s v n xs ∧ Below w.heap.size w w2 :=
  ⟨own_weaken hown h.size, bl_then h hb2⟩
theorem index_1 (r : Nat) (W : World) : (Instr.index 53 (.agg #[.nilFunc, .nilFunc, .func (.func 38) #[] #[], .func (.func 40) #[] #[.pointer (some ⟨r, 0, none⟩)], .func (.func 41) #[] #[], .func (.func 42) #[] #[.pointer (some ⟨r, 0, none⟩)], .func (.func 38) #[] #[], .func (.func 43) #[] #[]]) (.int .i64 1)).run Try.prog W = .ok (.agg #[.func (.func 38) #[] #[], .func (.func 40) #[] #[.pointer (some ⟨r, 0, none⟩)]]) W := by kernel_rfl
theorem index_2 (r : Nat) (W : World) : (Instr.index 53 (.agg #[.nilFunc, .nilFunc, .func (.func 38) #[] #[], .func (.func 40) #[] #[.pointer (some ⟨r, 0, none⟩)], .func (.func 41) #[] #[], .func (.func 42) #[] #[.pointer (some ⟨r, 0, none⟩)], .func (.func 38) #[] #[], .func (.func 43) #[] #[]]) (.int .i64 2)).run Try.prog W = .ok (.agg #[.func (.func 41) #[] #[], .func (.func 42) #[] #[.pointer (some ⟨r, 0, none⟩)]]) W := by kernel_rfl
theorem index_3 (r : Nat) (W : World) : (Instr.index 53 (.agg #[.nilFunc, .nilFunc, .func (.func 38) #[] #[], .func (.func 40) #[] #[.pointer (some ⟨r, 0, none⟩)], .func (.func 41) #[] #[], .func (.func 42) #[] #[.pointer (some ⟨r, 0, none⟩)], .func (.func 38) #[] #[], .func (.func 43) #[] #[]]) (.int .i64 3)).run Try.prog W = .ok (.agg #[.func (.func 38) #[] #[], .func (.func 43) #[] #[]]) W := by kernel_rfl
theorem field_1 (r : Nat) (W : World) : (Instr.field 52 (.agg #[.func (.func 38) #[] #[], .func (.func 40) #[] #[.pointer (some ⟨r, 0, none⟩)]]) 1).run Try.prog W = .ok (.func (.func 40) #[] #[.pointer (some ⟨r, 0, none⟩)]) W := by kernel_rfl
theorem field_2 (r : Nat) (W : World) : (Instr.field 52 (.agg #[.func (.func 41) #[] #[], .func (.func 42) #[] #[.pointer (some ⟨r, 0, none⟩)]]) 1).run Try.prog W = .ok (.func (.func 42) #[] #[.pointer (some ⟨r, 0, none⟩)]) W := by kernel_rfl
theorem field_3 (W : World) : (Instr.field 52 (.agg #[.func (.func 38) #[] #[], .func (.func 43) #[] #[]]) 1).run Try.prog W = .ok (.func (.func 43) #[] #[]) W := by kernel_rfl

set_option maxHeartbeats 1000000 in
theorem assign_1 (S L t : Int) (w : World) (hq : chkV 1 S L = 0) (h1 : ¬ t < -1125899906842624) (h2 : ¬ 1125899906842624 < t) :
    Calls Try.prog 12 #[.agg #[.int .i64 1, .int .i64 S, .int .i64 L], .int .i64 t] w fun e w' => ∃ v, e = .returned (.tuple #[v, .int .i64 0]) ∧ w'.ownsRow w.heap.size 33 2 v 1 (wcells ([(flr t S, flr t S + S)])) ∧ Below w.heap.size w w' := by
  have hS : plainB S L = true := by
    cases hc : plainB S L
    · rw [chkV] at hq
      simp [hc] at hq
    · rfl
  have hS := plainB_bd hS
  obtain ⟨g1, g2⟩ : 1 ≤ S ∧ S ≤ 1099511627776 := ⟨hS.1, hS.2.1⟩
  clear hS
  have HQ := Lib.hid hq
  clear hq
  have hix := index_1
  have hfx := field_1
  go_enter Try.func12, Try.ntmps12
  go_wp2_with (go_at_call 15; refine (check_is _ _ _ _ _ HQ.out).mono ?_; rintro e w1 ⟨rfl, hb1⟩)
  have hc1 : w1.cell? ⟨w.heap.size, 0, none⟩ = some (.int .i64 1) := (hb1.cell (p := ⟨w.heap.size, 0, none⟩) (by simp)).trans (by simp)
  have hc2 : w1.cell? ⟨w.heap.size, 1, none⟩ = some (.int .i64 S) := (hb1.cell (p := ⟨w.heap.size, 1, none⟩) (by simp)).trans (by simp)
  have hc3 : w1.cell? ⟨w.heap.size, 2, none⟩ = some (.int .i64 L) := (hb1.cell (p := ⟨w.heap.size, 2, none⟩) (by simp)).trans (by simp)
  have hsz : w.heap.size < w1.heap.size := by have := hb1.size; simp at this; omega
  go_region_held3 (fun w' => w'.cell? ⟨w.heap.size, 0, none⟩ = some (.int .i64 1) ∧ w'.cell? ⟨w.heap.size, 1, none⟩ = some (.int .i64 S) ∧ w'.cell? ⟨w.heap.size, 2, none⟩ = some (.int .i64 L))
    (first | go_keep | exact ⟨(hb2.cell (p := ⟨w.heap.size, 0, none⟩) (by simp; omega)).trans (by go_simp), (hb2.cell (p := ⟨w.heap.size, 1, none⟩) (by simp; omega)).trans (by go_simp), (hb2.cell (p := ⟨w.heap.size, 2, none⟩) (by simp; omega)).trans (by go_simp)⟩)
    (first | (go_at_call 28; refine (kinds_any _).mono ?_; rintro e w' ⟨rfl, rfl⟩) | (go_at_call 40; refine (tumb_any _ _ _ _ _ _ (by go_simp) g1 g2 (by omega) (by omega)).mono ?_; rintro e w2 ⟨v, rfl, hown, hb2⟩))
  go_wp2
  go_ret2
  refine ⟨_, rfl, fin_own ?_ hb2 hown⟩
  repeat first | exact Below.refl _ _ | refine Below.drew ?_ | refine bl_drewN ?_ _ | refine bl_alloc ?_ _ | refine bl_then ?_ (by assumption)

set_option maxHeartbeats 1000000 in
theorem assign_2 (S L t : Int) (w : World) (hq : chkV 2 S L = 0) (h1 : ¬ t < -1125899906842624) (h2 : ¬ 1125899906842624 < t) :
    Calls Try.prog 12 #[.agg #[.int .i64 2, .int .i64 S, .int .i64 L], .int .i64 t] w fun e w' => ∃ v, e = .returned (.tuple #[v, .int .i64 0]) ∧ w'.ownsRow w.heap.size 33 2 v (slN t S L) (wcells (slL t S L (slN t S L))) ∧ Below w.heap.size w w' := by
  have hS : slidB S L = true := by
    cases hc : slidB S L
    · rw [chkV] at hq
      simp [hc] at hq
    · rfl
  have hS := slidB_bd hS
  obtain ⟨g1, g2, g3, g4, g5⟩ := hS
  have HQ := Lib.hid hq
  clear hq
  have hix := index_2
  have hfx := field_2
  go_enter Try.func12, Try.ntmps12
  go_wp2_with (go_at_call 15; refine (check_is _ _ _ _ _ HQ.out).mono ?_; rintro e w1 ⟨rfl, hb1⟩)
  have hc1 : w1.cell? ⟨w.heap.size, 0, none⟩ = some (.int .i64 2) := (hb1.cell (p := ⟨w.heap.size, 0, none⟩) (by simp)).trans (by simp)
  have hc2 : w1.cell? ⟨w.heap.size, 1, none⟩ = some (.int .i64 S) := (hb1.cell (p := ⟨w.heap.size, 1, none⟩) (by simp)).trans (by simp)
  have hc3 : w1.cell? ⟨w.heap.size, 2, none⟩ = some (.int .i64 L) := (hb1.cell (p := ⟨w.heap.size, 2, none⟩) (by simp)).trans (by simp)
  have hsz : w.heap.size < w1.heap.size := by have := hb1.size; simp at this; omega
  go_region_held3 (fun w' => w'.cell? ⟨w.heap.size, 0, none⟩ = some (.int .i64 2) ∧ w'.cell? ⟨w.heap.size, 1, none⟩ = some (.int .i64 S) ∧ w'.cell? ⟨w.heap.size, 2, none⟩ = some (.int .i64 L))
    (first | go_keep | exact ⟨(hb2.cell (p := ⟨w.heap.size, 0, none⟩) (by simp; omega)).trans (by go_simp), (hb2.cell (p := ⟨w.heap.size, 1, none⟩) (by simp; omega)).trans (by go_simp), (hb2.cell (p := ⟨w.heap.size, 2, none⟩) (by simp; omega)).trans (by go_simp)⟩)
    (first | (go_at_call 28; refine (kinds_any _).mono ?_; rintro e w' ⟨rfl, rfl⟩) | (go_at_call 42; refine (slide_any _ _ _ _ _ _ (by go_simp) g1 g2 g3 g4 g5 (by omega) (by omega)).mono ?_; rintro e w2 ⟨v, rfl, hown, hb2⟩))
  go_wp2
  go_ret2
  refine ⟨_, rfl, fin_own ?_ hb2 hown⟩
  repeat first | exact Below.refl _ _ | refine Below.drew ?_ | refine bl_drewN ?_ _ | refine bl_alloc ?_ _ | refine bl_then ?_ (by assumption)

set_option maxHeartbeats 1000000 in
theorem assign_3 (S L t : Int) (w : World) (hq : chkV 3 S L = 0) (h1 : ¬ t < -1125899906842624) (h2 : ¬ 1125899906842624 < t) :
    Calls Try.prog 12 #[.agg #[.int .i64 3, .int .i64 S, .int .i64 L], .int .i64 t] w fun e w' => ∃ v, e = .returned (.tuple #[v, .int .i64 0]) ∧ w'.ownsRow w.heap.size 33 2 v 1 (wcells ([(t, t + S)])) ∧ Below w.heap.size w w' := by
  have hS : plainB S L = true := by
    cases hc : plainB S L
    · rw [chkV] at hq
      simp [hc] at hq
    · rfl
  have hS := plainB_bd hS
  obtain ⟨g1, g2⟩ : 1 ≤ S ∧ S ≤ 1099511627776 := ⟨hS.1, hS.2.1⟩
  clear hS
  have HQ := Lib.hid hq
  clear hq
  have hix := index_3
  have hfx := field_3
  go_enter Try.func12, Try.ntmps12
  go_wp2_with (go_at_call 15; refine (check_is _ _ _ _ _ HQ.out).mono ?_; rintro e w1 ⟨rfl, hb1⟩)
  have hc1 : w1.cell? ⟨w.heap.size, 0, none⟩ = some (.int .i64 3) := (hb1.cell (p := ⟨w.heap.size, 0, none⟩) (by simp)).trans (by simp)
  have hc2 : w1.cell? ⟨w.heap.size, 1, none⟩ = some (.int .i64 S) := (hb1.cell (p := ⟨w.heap.size, 1, none⟩) (by simp)).trans (by simp)
  have hc3 : w1.cell? ⟨w.heap.size, 2, none⟩ = some (.int .i64 L) := (hb1.cell (p := ⟨w.heap.size, 2, none⟩) (by simp)).trans (by simp)
  have hsz : w.heap.size < w1.heap.size := by have := hb1.size; simp at this; omega
  go_region_held3 (fun w' => w'.cell? ⟨w.heap.size, 0, none⟩ = some (.int .i64 3) ∧ w'.cell? ⟨w.heap.size, 1, none⟩ = some (.int .i64 S) ∧ w'.cell? ⟨w.heap.size, 2, none⟩ = some (.int .i64 L))
    (first | go_keep | exact ⟨(hb2.cell (p := ⟨w.heap.size, 0, none⟩) (by simp; omega)).trans (by go_simp), (hb2.cell (p := ⟨w.heap.size, 1, none⟩) (by simp; omega)).trans (by go_simp), (hb2.cell (p := ⟨w.heap.size, 2, none⟩) (by simp; omega)).trans (by go_simp)⟩)
    (first | (go_at_call 28; refine (kinds_any _).mono ?_; rintro e w' ⟨rfl, rfl⟩) | (go_at_call 43; refine (sess_any _ _ _ _ _ g1 g2 (by omega) (by omega)).mono ?_; rintro e w2 ⟨v, rfl, hown, hb2⟩))
  go_wp2
  go_ret2
  refine ⟨_, rfl, fin_own ?_ hb2 hown⟩
  repeat first | exact Below.refl _ _ | refine Below.drew ?_ | refine bl_drewN ?_ _ | refine bl_alloc ?_ _ | refine bl_then ?_ (by assumption)

end Go.Proofs.Ytgpmceimhfkncaa
