/- The walk of the law WindowSessions, for every input. Conditions: as the theorem states them. -/
import Derived.Test.YtgpmceimhfkncaaQ1
namespace Go.Proofs.Ytgpmceimhfkncaa
open Go.RowKit Go.Proofs.YtgpmceimhfkncaaW.PrintWords Go.Proofs.Ytgpmceimhfkncaa.WW Go.Proofs.Ytgpmceimhfkncaa.PWindowWithin Go.Proofs.YtgpmceimhfkncaaW.PrintLast
set_option linter.unusedVariables false
set_option linter.unusedSimpArgs false

theorem ses_far (A : Option Addr) (c : Nat) (l : List (Int × Int)) (t : Int) (w : World) (hr : RdW w w.heap.size A l) (hn : 60 < l.length) :
    Calls Try.prog 6 #[.slice A l.length c, .int .i64 t] w fun e w' => e = .returned (.bool true) ∧ Below w.heap.size w w' := by
  have hml := hr.1
  clear hr
  go_enter Try.func6, Try.ntmps6
  go_wp2_with (fail)
  refine (awake_any _).mono ?_
  rintro e w1 ⟨rfl, hb1⟩
  go_wp2
  go_ret
  refine ⟨rfl, ?_⟩
  repeat first | exact Below.refl _ _ | refine Below.drew ?_ | refine bl_alloc ?_ _ | refine bl_then ?_ hb1

theorem step_append_e {ops : Array Oper} {o : Oper} {a : Act} {K : Act → World → Prop} {Q : Exit → Act → World → Prop} {E : Prop} (w : World) (hgd : o.guard = none) (s x : Operand)
    (ho : o.op = .call { callee := .builtin .append, args := #[s, x], argTypes := #[24, 24] }) (base : Nat) (v : Value) (hs : a.eval s = v) (hown : w.ownsRow base 33 2 v 0 [])
    (A : Option Addr) (c : Nat) (hnone : A = none → c = 0) (hx : a.eval x = .slice A 0 c) (hbase : base ≤ w.heap.size)
    (h : ∀ v' w', w'.ownsRow base 33 2 v' 0 [] → w.grownBy w' v.ownBlock → K (a.put o.dst v') w') :
    if Region.wanted o (yielded ops a.tmps) = true then Oper.wp Try.prog o a w K Q else E := by
  have hw : Region.wanted o (yielded ops a.tmps) = true := by simp [Region.wanted, hgd]
  rw [if_pos hw]
  obtain ⟨i0, hi, hz0, hz1, hz2⟩ := info_parts Try.info33
  rcases A with _ | ad
  · obtain rfl := hnone rfl
    have hrun := run_append_owned_none (P := Try.prog) (w := w) base 24 o.type 33 i0 2 Try.underlying24 hi v 0 [] hown
    unfold Oper.wp
    simp [execOp, ho, resolve, invoke, builtin, hs, hx, hrun, Result.andThen]
    exact h v w hown (World.grownBy.refl w _)
  · exact wp_append_own w s x 24 ho base 33 i0 (.agg #[.int .i64 0, .int .i64 0]) 2 16 Try.underlying24 hi hz0 hz1 hz2 rfl (by decide) v 0 [] hs hown ad 0 c [] hx rfl (by simp) (by simp) (by simp [maxLen]) (by simp) hbase (fun v' w' h1 h2 _ => h v' w' h1 h2)

set_option maxRecDepth 100000 in
set_option maxHeartbeats 1000000 in
theorem ses_none (t : Int) (w : World) :
    Calls Try.prog 6 #[.slice none 0 0, .int .i64 t] w fun e w' => e = .returned (.bool true) ∧ Below w.heap.size w w' := by
  have hown0 : (w.alloc (Obj.cells #[] 33)).ownsRow w.heap.size 33 2 (.slice (some ⟨w.heap.size, 0, none⟩) 0 0) 0 [] :=
    ⟨rfl, .inr ⟨w.heap.size, 0, #[], rfl, Nat.le_refl _, new_row0 w _, Nat.le_refl _, by simp [maxLen], rfl, rfl⟩⟩
  go_enter Try.func6, Try.ntmps6
  go_wp2_with (fail)
  go_region_held3 (fun _ => True) (trivial)
    ((first
      | (refine step_append_e _ rfl _ _ rfl w.heap.size (.slice (some ⟨w.heap.size, 0, none⟩) 0 0) rfl hown0 none 0 (fun _ => rfl) rfl (by simp) ?_; intro v1 w1 hown1 hgrow1)
      | (refine step_append_e _ rfl _ _ rfl w.heap.size v1 rfl hown1 none 0 (fun _ => rfl) rfl (by have := hgrow1.size; simp at this; omega) ?_; intro v2 w2 hown2 hgrow2)))
  have hb1 : Below w.heap.size w w1 := (((Below.refl _ _).alloc (Nat.le_refl _) _).drew.grown hgrow1 (by simp) (fun g hg => by simp [Value.ownBlock] at hg; omega))
  have hb2 : Below w.heap.size w w2 := hb1.grown hgrow2 hb1.size (own_ge hown1)
  obtain ⟨A0, c0, rfl, hc0, hr0⟩ := own_reads (l := []) hown2
  clear hown1 hown2 hgrow1 hgrow2 hown0 hr0
  go_wp2_with (fail)
  refine (all_nil _ _ false _).mono ?_
  rintro e w3 ⟨rfl, hb3⟩
  go_wp2_with (fail)
  refine (all_nil _ _ true _).mono ?_
  rintro e w4 ⟨rfl, hb4⟩
  go_wp2_with (fail)
  refine (all_nil _ _ false _).mono ?_
  rintro e w5 ⟨rfl, hb5⟩
  go_wp2_with (fail)
  refine (same_any none none 0 0 [] _ (C_of_RdW (B := 0) ⟨by simp, by simp⟩) (Nat.le_refl _) (C_of_RdW (B := 0) ⟨by simp, by simp⟩) (Nat.le_refl _)).mono ?_
  rintro e w6 ⟨rfl, hb6⟩
  go_wp2_with (fail)
  refine (same_any none none 0 0 [] _ (C_of_RdW (B := 0) ⟨by simp, by simp⟩) (Nat.le_refl _) (C_of_RdW (B := 0) ⟨by simp, by simp⟩) (Nat.le_refl _)).mono ?_
  rintro e w7 ⟨rfl, hb7⟩
  go_wp2_with (fail)
  refine (apart_nil _ _ _).mono ?_
  rintro e w8 ⟨rfl, hb8⟩
  go_wp2_with (fail)
  refine wp_loop_rounds 1 ?_
  rw [rounds_succ]
  go_wp2_with (fail)
  refine wp_loop_rounds 1 ?_
  rw [rounds_succ]
  go_wp2_with (fail)
  refine (awake_any _).mono ?_
  rintro e w9 ⟨rfl, hb9⟩
  go_wp2
  go_ret
  exact ⟨rfl, bl_then (bl_then (bl_then (bl_then (bl_then (bl_then (bl_then hb2 hb3) hb4) hb5) hb6) hb7) hb8) hb9⟩
set_option maxRecDepth 100000 in
set_option maxHeartbeats 1000000 in
theorem ses_some0 (ad : Addr) (t : Int) (w : World) :
    Calls Try.prog 6 #[.slice (some ad) 0 0, .int .i64 t] w fun e w' => e = .returned (.bool true) ∧ Below w.heap.size w w' := by
  have hown0 : (w.alloc (Obj.cells #[] 33)).ownsRow w.heap.size 33 2 (.slice (some ⟨w.heap.size, 0, none⟩) 0 0) 0 [] :=
    ⟨rfl, .inr ⟨w.heap.size, 0, #[], rfl, Nat.le_refl _, new_row0 w _, Nat.le_refl _, by simp [maxLen], rfl, rfl⟩⟩
  go_enter Try.func6, Try.ntmps6
  go_wp2_with (fail)
  go_region_held3 (fun _ => True) (trivial)
    ((first
      | (refine step_append_e _ rfl _ _ rfl w.heap.size (.slice (some ⟨w.heap.size, 0, none⟩) 0 0) rfl hown0 (some ad) 0 (fun h => by cases h) rfl (by simp) ?_; intro v1 w1 hown1 hgrow1)
      | (refine step_append_e _ rfl _ _ rfl w.heap.size v1 rfl hown1 (some ad) 0 (fun h => by cases h) rfl (by have := hgrow1.size; simp at this; omega) ?_; intro v2 w2 hown2 hgrow2)))
  have hb1 : Below w.heap.size w w1 := (((Below.refl _ _).alloc (Nat.le_refl _) _).drew.grown hgrow1 (by simp) (fun g hg => by simp [Value.ownBlock] at hg; omega))
  have hb2 : Below w.heap.size w w2 := hb1.grown hgrow2 hb1.size (own_ge hown1)
  obtain ⟨A0, c0, rfl, hc0, hr0⟩ := own_reads (l := []) hown2
  clear hown1 hown2 hgrow1 hgrow2 hown0 hr0
  go_wp2_with (fail)
  refine (all_nil _ _ false _).mono ?_
  rintro e w3 ⟨rfl, hb3⟩
  go_wp2_with (fail)
  refine (all_nil _ _ true _).mono ?_
  rintro e w4 ⟨rfl, hb4⟩
  go_wp2_with (fail)
  refine (all_nil _ _ false _).mono ?_
  rintro e w5 ⟨rfl, hb5⟩
  go_wp2_with (fail)
  refine (same_any none none 0 0 [] _ (C_of_RdW (B := 0) ⟨by simp, by simp⟩) (Nat.le_refl _) (C_of_RdW (B := 0) ⟨by simp, by simp⟩) (Nat.le_refl _)).mono ?_
  rintro e w6 ⟨rfl, hb6⟩
  go_wp2_with (fail)
  refine (same_any none none 0 0 [] _ (C_of_RdW (B := 0) ⟨by simp, by simp⟩) (Nat.le_refl _) (C_of_RdW (B := 0) ⟨by simp, by simp⟩) (Nat.le_refl _)).mono ?_
  rintro e w7 ⟨rfl, hb7⟩
  go_wp2_with (fail)
  refine (apart_nil _ _ _).mono ?_
  rintro e w8 ⟨rfl, hb8⟩
  go_wp2_with (fail)
  refine wp_loop_rounds 1 ?_
  rw [rounds_succ]
  go_wp2_with (fail)
  refine wp_loop_rounds 1 ?_
  rw [rounds_succ]
  go_wp2_with (fail)
  refine (awake_any _).mono ?_
  rintro e w9 ⟨rfl, hb9⟩
  go_wp2
  go_ret
  exact ⟨rfl, bl_then (bl_then (bl_then (bl_then (bl_then (bl_then (bl_then hb2 hb3) hb4) hb5) hb6) hb7) hb8) hb9⟩
set_option maxRecDepth 100000 in
set_option maxHeartbeats 1000000 in
theorem ses_some1 (ad : Addr) (c : Nat) (hcz : ¬ c = 0) (t : Int) (w : World) :
    Calls Try.prog 6 #[.slice (some ad) 0 c, .int .i64 t] w fun e w' => e = .returned (.bool true) ∧ Below w.heap.size w w' := by
  have hown0 : (w.alloc (Obj.cells #[] 33)).ownsRow w.heap.size 33 2 (.slice (some ⟨w.heap.size, 0, none⟩) 0 0) 0 [] :=
    ⟨rfl, .inr ⟨w.heap.size, 0, #[], rfl, Nat.le_refl _, new_row0 w _, Nat.le_refl _, by simp [maxLen], rfl, rfl⟩⟩
  go_enter Try.func6, Try.ntmps6
  go_wp2_with (fail)
  go_region_held3 (fun _ => True) (trivial)
    ((first
      | (refine step_append_e _ rfl _ _ rfl w.heap.size (.slice (some ⟨w.heap.size, 0, none⟩) 0 0) rfl hown0 (some ad) c (fun h => by cases h) rfl (by simp) ?_; intro v1 w1 hown1 hgrow1)
      | (refine step_append_e _ rfl _ _ rfl w.heap.size v1 rfl hown1 (some ad) c (fun h => by cases h) rfl (by have := hgrow1.size; simp at this; omega) ?_; intro v2 w2 hown2 hgrow2)))
  have hb1 : Below w.heap.size w w1 := (((Below.refl _ _).alloc (Nat.le_refl _) _).drew.grown hgrow1 (by simp) (fun g hg => by simp [Value.ownBlock] at hg; omega))
  have hb2 : Below w.heap.size w w2 := hb1.grown hgrow2 hb1.size (own_ge hown1)
  obtain ⟨A0, c0, rfl, hc0, hr0⟩ := own_reads (l := []) hown2
  clear hown1 hown2 hgrow1 hgrow2 hown0 hr0
  go_wp2_with (fail)
  refine (all_nil _ _ false _).mono ?_
  rintro e w3 ⟨rfl, hb3⟩
  go_wp2_with (fail)
  refine (all_nil _ _ true _).mono ?_
  rintro e w4 ⟨rfl, hb4⟩
  go_wp2_with (fail)
  refine (all_nil _ _ false _).mono ?_
  rintro e w5 ⟨rfl, hb5⟩
  go_wp2_with (fail)
  refine (same_any none none 0 0 [] _ (C_of_RdW (B := 0) ⟨by simp, by simp⟩) (Nat.le_refl _) (C_of_RdW (B := 0) ⟨by simp, by simp⟩) (Nat.le_refl _)).mono ?_
  rintro e w6 ⟨rfl, hb6⟩
  go_wp2_with (fail)
  refine (same_any none none 0 0 [] _ (C_of_RdW (B := 0) ⟨by simp, by simp⟩) (Nat.le_refl _) (C_of_RdW (B := 0) ⟨by simp, by simp⟩) (Nat.le_refl _)).mono ?_
  rintro e w7 ⟨rfl, hb7⟩
  go_wp2_with (fail)
  refine (apart_nil _ _ _).mono ?_
  rintro e w8 ⟨rfl, hb8⟩
  go_wp2_with (fail)
  refine wp_loop_rounds 1 ?_
  rw [rounds_succ]
  go_wp2_with (fail)
  refine wp_loop_rounds 1 ?_
  rw [rounds_succ]
  go_wp2_with (fail)
  refine (awake_any _).mono ?_
  rintro e w9 ⟨rfl, hb9⟩
  go_wp2
  go_ret
  exact ⟨rfl, bl_then (bl_then (bl_then (bl_then (bl_then (bl_then (bl_then hb2 hb3) hb4) hb5) hb6) hb7) hb8) hb9⟩
theorem sessions_walk (A : Option Addr) (c : Nat) (l : List (Int × Int)) (t : Int) (w : World) (hr : RdW w w.heap.size A l ∧ l.length ≤ c ∧ (A = none → c = 0)) (h1 : (Lit.int .i64 t).wf = true) :
    Calls Try.prog 6 #[.slice A l.length c, .int .i64 t] w fun e w' => e = .returned (.bool true) ∧ Below w.heap.size w w' := by
  obtain ⟨hr, hc, hnone⟩ := hr
  by_cases hn : 60 < l.length
  · exact ses_far A c l t w hr hn
  rcases hr.cases with rfl | ⟨b, off, rfl, _, hpos, _⟩
  · rcases A with _ | ad
    · obtain rfl := hnone rfl
      exact ses_none t w
    · by_cases hz : c = 0
      · subst hz; exact ses_some0 ad t w
      · exact ses_some1 ad c hz t w
  · have hlt := Int.tmod_lt_of_pos t (show (0 : Int) < (l.length : Int) by omega)
    have hgt : -(l.length : Int) < t.tmod (l.length : Int) := by
      have h1 := Int.tmod_lt_of_pos (-t) (show (0 : Int) < (l.length : Int) by omega)
      rw [Int.neg_tmod] at h1
      omega
    by_cases h0 : 0 ≤ t.tmod (l.length : Int)
    · exact ses_pos b off c l t w hr hc (by omega) hpos (t.tmod (l.length : Int)).toNat (by omega) (by omega)
    · exact ses_neg b off c l t w hr hc (by omega) hpos (t.tmod (l.length : Int) + l.length).toNat (by omega) (by omega)
end Go.Proofs.Ytgpmceimhfkncaa
