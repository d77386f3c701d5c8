/- The walk of the law WindowAssign: it returns true, for any windows and any time. Conditions: none. -/
import Derived.Test.YtgpmceimhfkncaaD0
namespace Go.Proofs.Ytgpmceimhfkncaa.WA
open Go.RowKit Go.Proofs.Ytgpmceimhfkncaa Go.Proofs.Ytgpmceimhfkncaa.PWindowAssign Go.Proofs.YtgpmceimhfkncaaW.PrintWords Go.Proofs.YtgpmceimhfkncaaW.PrintLast
set_option linter.unusedVariables false
set_option linter.unusedSimpArgs false

theorem refassign_any (K S L t : Int) (w : World) (l : List (Int × Int)) (er : Int) (hq : asgV K S L t = (l, er)) :
    Calls Try.prog 13 #[.agg #[.int .i64 K, .int .i64 S, .int .i64 L], .int .i64 t] w fun e w' => ∃ A c, e = .returned (.tuple #[.slice A l.length c, .int .i64 er]) ∧ l.length ≤ c ∧ Kd.C k33 w' A (l.map toS).length (l.map toS) ∧ Below w.heap.size w w' := by
  have h := assign_ref K S L t
  rw [hq] at h
  refine (freshetref21_Assign.calls 30 K S L t _ _ w h).mono ?_
  rintro e w' ⟨v, rfl, hR, hb⟩
  obtain ⟨A, c, rfl, hl, hC⟩ := Kd.R_reads hR
  rw [List.length_map] at hl
  exact ⟨A, c, by rw [List.length_map], hl, hC, hb⟩
theorem same_any (A0 A1 : Option Addr) (c0 c1 : Nat) (l : List (Int × Int)) (w : World) (hr0 : Kd.C k33 w A0 (l.map toS).length (l.map toS)) (hc0 : l.length ≤ c0) (hr1 : Kd.C k33 w A1 (l.map toS).length (l.map toS)) (hc1 : l.length ≤ c1) :
    Calls Try.prog 14 #[.slice A0 l.length c0, .slice A1 l.length c1] w fun e w' => e = .returned (.bool true) ∧ Below w.heap.size w w' := by
  have h := freshetref21_Same.calls ((l.map toS).length + 1) A0 c0 (l.map toS) A1 c1 (l.map toS) true w hr0 (by rw [List.length_map]; exact hc0) hr1 (by rw [List.length_map]; exact hc1) (same_refl _ hr0.2.1)
  rw [List.length_map] at h
  exact h.mono fun e w' ⟨he, hd⟩ => ⟨he, hd.below⟩
theorem refcheck_any (K S L : Int) (c : Int) (hc : chkV K S L = c) (w : World) :
    Calls Try.prog 16 #[.agg #[.int .i64 K, .int .i64 S, .int .i64 L]] w fun e w' => e = .returned (.int .i64 c) ∧ Below w.heap.size w w' := by
  subst hc
  exact freshetref21_Check.calls 2 K S L _ w (check_ref K S L)

set_option maxHeartbeats 1000000 in
theorem assign_walk (K S L t : Int) (w : World) (h0 : (Lit.int .i64 K).wf = true) (h1 : (Lit.int .i64 S).wf = true) (h2 : (Lit.int .i64 L).wf = true) (h3 : (Lit.int .i64 t).wf = true) :
    Calls Try.prog 3 #[.agg #[.int .i64 K, .int .i64 S, .int .i64 L], .int .i64 t] w fun e w' => e = .returned (.bool true) ∧ Below w.heap.size w w' := by
  obtain ⟨l, er, ha⟩ : ∃ l er, asgV K S L t = (l, er) := ⟨_, _, rfl⟩
  obtain ⟨ck, hck⟩ : ∃ c, chkV K S L = c := ⟨_, rfl⟩
  have HA := Lib.hid ha
  have HK := Lib.hid hck
  clear ha hck h0 h1 h2 h3
  go_enter Try.func3, Try.ntmps3
  go_wp2_with (fail)
  refine (assign_any K S L t _ _ _ HA.out).mono ?_
  rintro e w1 ⟨v1, rfl, hown1, hb1⟩
  obtain ⟨A1, c1, rfl, hc1, hr1⟩ := own_reads hown1
  clear hown1
  have q0 : w1.cell? ⟨w.heap.size, 0, none⟩ = some (.int .i64 K) := (hb1.cell (p := ⟨w.heap.size, 0, none⟩) (by simp)).trans (by go_simp)
  have q1 : w1.cell? ⟨w.heap.size, 1, none⟩ = some (.int .i64 S) := (hb1.cell (p := ⟨w.heap.size, 1, none⟩) (by simp)).trans (by go_simp)
  have q2 : w1.cell? ⟨w.heap.size, 2, none⟩ = some (.int .i64 L) := (hb1.cell (p := ⟨w.heap.size, 2, none⟩) (by simp)).trans (by go_simp)
  have hz : w.heap.size < w1.heap.size := by have := hb1.size; simp at this; omega
  go_wp2_with (fail)
  refine (refassign_any K S L t _ _ _ HA.out).mono ?_
  rintro e w2 ⟨A2, c2, rfl, hc2, hC2, hb2⟩
  have hC1 := Kd.C_below (C_of_RdW hr1) hb2
  have q0 := (hb2.cell (p := ⟨w.heap.size, 0, none⟩) hz).trans q0
  have q1 := (hb2.cell (p := ⟨w.heap.size, 1, none⟩) hz).trans q1
  have q2 := (hb2.cell (p := ⟨w.heap.size, 2, none⟩) hz).trans q2
  have HC1 : Hid (∀ x : Ext w2, Kd.C k33 x.val A1 (l.map toS).length (l.map toS)) := Lib.hid fun x => Kd.C_below hC1 x.bl
  have HC2 : Hid (∀ x : Ext w2, Kd.C k33 x.val A2 (l.map toS).length (l.map toS)) := Lib.hid fun x => Kd.C_below hC2 x.bl
  have e0 := ext_cell q0
  have e1 := ext_cell q1
  have e2 := ext_cell q2
  clear hr1 hC1 hC2
  go_wp2_with (fail)
  refine wp_region_ext (by kernel_rfl) (by kernel_rfl) ?_
  repeat (go_big_quiet_step ((first
    | (go_at_call 14; exact ext_calls (same_any _ _ _ _ l _ (HC1.out _) hc1 (HC2.out _) hc2))
    | (go_at_call 15; exact ext_calls (check_is _ _ _ _ _ HK.out))
    | (go_at_call 16; exact ext_calls (refcheck_any _ _ _ _ HK.out _))
    | (go_at_call 17; exact ext_calls (awake_any _)))))
  refine wpQuiet_nil ?_
  rintro _ ⟨⟨w3, hb3⟩, rfl⟩
  go_wp2
  go_ret
  refine ⟨rfl, ?_⟩
  repeat first | exact Below.refl _ _ | refine Below.drew ?_ | refine bl_alloc ?_ _ | refine bl_then ?_ hb3 | refine bl_then ?_ hb2 | refine bl_then ?_ hb1
end Go.Proofs.Ytgpmceimhfkncaa.WA
