/- The walk of the law WindowHolds: it returns true, for any windows and any time. Conditions: none. -/
import Derived.Test.YtgpmceimhfkncaaE0
namespace Go.Proofs.Ytgpmceimhfkncaa
open Go.RowKit
set_option linter.unusedVariables false
set_option linter.unusedSimpArgs false

theorem holds_no (K S L t : Int) (w : World) (ha : asgV K S L t = ([], 2)) :
    Calls Try.prog 5 #[.agg #[.int .i64 K, .int .i64 S, .int .i64 L], .int .i64 t] w fun e w' => e = .returned (.bool true) ∧ Below w.heap.size w w' := by
  have HA := Lib.hid ha
  clear ha
  go_enter Try.func5, Try.ntmps5
  go_wp2_with (fail)
  refine (assign_any K S L t _ _ _ HA.out).mono ?_
  rintro e w1 ⟨v1, rfl, hown1, hb1⟩
  obtain ⟨A1, c1, rfl, hc1, hr1⟩ := own_reads hown1
  clear hown1 hr1
  simp only [List.length_nil] at hc1 ⊢
  go_wp2_with (go_at_call 17; refine (awake_any _).mono ?_; rintro e w3 ⟨rfl, hb3⟩)
  go_ret
  refine ⟨rfl, ?_⟩
  repeat first | exact Below.refl _ _ | refine Below.drew ?_ | refine bl_alloc ?_ _ | refine bl_then ?_ hb3 | refine bl_then ?_ hb1

/-- The list of windows under a letter: what the law asks of it. -/
structure WinsOk (K S L t : Int) (l : List (Int × Int)) : Prop where
  s1 : 1 ≤ S
  s2 : S ≤ 1099511627776
  t1 : -1125899906842624 ≤ t
  t2 : t ≤ 1125899906842624
  l1 : K = 2 → 1 ≤ L
  l2 : L ≤ 1099511627776
  l0 : 0 ≤ L
  each : ∀ k, k < l.length → ∃ F, WinAt K S L t l k F
  one : K ≠ 2 → l.length = 1
  two : K = 2 → (l.length : Int) = S / L ∨ (l.length : Int) = (S + L - 1) / L
  few : l.length ≤ 8
theorem winsOk {K S L t : Int} (h0 : chkV K S L = 0) (t1 : -1125899906842624 ≤ t) (t2 : t ≤ 1125899906842624) : WinsOk K S L t (winsL K S L t) := by
  rcases chkV_kind h0 with rfl | rfl | rfl
  · have hS : plainB S L = true := by
      cases hp : plainB S L
      · simp [chkV, hp] at h0
      · rfl
    obtain ⟨g1, g2, g3⟩ := plainB_bd hS
    exact ⟨g1, g2, t1, t2, fun h => absurd h (by omega), by omega, by omega, wins_at h0 t1 t2, fun _ => by simp [winsL], fun h => absurd h (by omega), by simp [winsL]⟩
  · have hS : slidB S L = true := by
      cases hp : slidB S L
      · simp [chkV, hp] at h0
      · rfl
    obtain ⟨g1, g2, g3, g4, g5⟩ := slidB_bd hS
    have e : (winsL 2 S L t).length = slN t S L := by simp [winsL, slL]
    exact ⟨g1, g2, t1, t2, fun _ => g3, g4, by omega, wins_at h0 t1 t2, fun h => absurd rfl h, fun _ => by rw [e]; exact slN_two t S L g3 g1, by rw [e]; exact slN_le t S L g3 g1 g5⟩
  · have hS : plainB S L = true := by
      cases hp : plainB S L
      · simp [chkV, hp] at h0
      · rfl
    obtain ⟨g1, g2, g3⟩ := plainB_bd hS
    exact ⟨g1, g2, t1, t2, fun h => absurd h (by omega), by omega, by omega, wins_at h0 t1 t2, fun _ => by simp [winsL], fun h => absurd h (by omega), by simp [winsL]⟩

set_option maxHeartbeats 2000000 in
set_option maxRecDepth 100000 in
theorem holds_1 (S L t : Int) (w : World) (l : List (Int × Int)) (ha : asgV 1 S L t = (l, 0)) (ho : WinsOk 1 S L t l) :
    Calls Try.prog 5 #[.agg #[.int .i64 1, .int .i64 S, .int .i64 L], .int .i64 t] w fun e w' => e = .returned (.bool true) ∧ Below w.heap.size w w' := by
  obtain ⟨s1, s2, t1, t2, l1, l2, l0, each, one, two, few⟩ := ho
  have HA := Lib.hid ha
  have HE := Lib.hid each
  have H1 := Lib.hid one
  have H2 := Lib.hid two
  have _ := l1
  clear ha each one two l1
  go_enter Try.func5, Try.ntmps5
  go_wp2_with (fail)
  refine (assign_any 1 S L t _ _ _ HA.out).mono ?_
  rintro e w1 ⟨v1, rfl, hown1, hb1⟩
  obtain ⟨A1, c1, rfl, hc1, hr1⟩ := own_reads hown1
  have q0 : w1.cell? ⟨w.heap.size, 0, none⟩ = some (.int .i64 1) := (hb1.cell (p := ⟨w.heap.size, 0, none⟩) (by simp)).trans (by go_simp)
  have q1 : w1.cell? ⟨w.heap.size, 1, none⟩ = some (.int .i64 S) := (hb1.cell (p := ⟨w.heap.size, 1, none⟩) (by simp)).trans (by go_simp)
  have q2 : w1.cell? ⟨w.heap.size, 2, none⟩ = some (.int .i64 L) := (hb1.cell (p := ⟨w.heap.size, 2, none⟩) (by simp)).trans (by go_simp)
  have hz : w.heap.size < w1.heap.size := by have := hb1.size; simp at this; omega
  have hbw : Below w.heap.size w w1 := bl_then (bl_alloc (Below.refl _ _) _) hb1
  clear hown1 hb1
  rcases hr1.cases with hnil | ⟨b, off, rfl, hb, hpos, hcell⟩
  · exfalso
    have := H1.out (by decide)
    rw [hnil] at this
    simp at this
  have HC := Lib.hid hcell
  clear hr1 hcell
  go_wp2
  go_loopw [7] (fun i wr => ∃ k : Nat, k ≤ l.length ∧ i = .int .i64 k ∧ Below w1.heap.size w1 wr) (fun i _ => l.length - (intOf i).toNat)
  case atStart => exact ⟨0, Nat.zero_le _, rfl, Below.refl _ _⟩
  case round =>
    obtain ⟨k, hk, rfl, hbl⟩ := hrel
    have q0 := (hbl.cell (p := ⟨w.heap.size, 0, none⟩) hz).trans q0
    have q1 := (hbl.cell (p := ⟨w.heap.size, 1, none⟩) hz).trans q1
    have q2 := (hbl.cell (p := ⟨w.heap.size, 2, none⟩) hz).trans q2
    have hsz := hbl.size
    have hzr : w.heap.size < wr.heap.size := by omega
    by_cases hlt : k < l.length
    · obtain ⟨F, hF, f1, f2, f3, f4, f5⟩ := HE.out k hlt
      obtain ⟨c1, c2⟩ := HC.out k hlt
      rw [hF] at c1 c2
      have c1 := (hbl.cell (p := ⟨b, off + k * 2, none⟩) hb).trans c1
      have c2 := (hbl.cell (p := ⟨b, off + k * 2 + 1, none⟩) hb).trans c2
      dsimp only at c1 c2
      have hbr : b < wr.heap.size := by omega
      have f6 : -2251799813685248 ≤ F := by omega
      have d1 : decide (t < F) = false := by simp; omega
      have d2 : decide (F + S ≤ t) = false := by simp; omega
      have hm : F.tmod S = 0 := Int.tmod_eq_zero_of_dvd (Int.dvd_of_emod_eq_zero (f5 rfl))
      clear hF f4 f5
      by_cases hk0 : k = 0
      · subst hk0
        simp only [Nat.zero_mul, Nat.add_zero] at c1 c2
        clear f3
        go_wp2
        have hw1 : IntKind.i64.wrap (F + S - F) = S := by rw [IntKind.wrap_i64]; omega
        have hw2 : IntKind.i64.wrap (F - L + L) = F := by rw [IntKind.wrap_i64]; omega
        go_quiet (fail)
        clear hw1 hw2
        go_wp2
        go_roundw
        case rel => exact ⟨1, by omega, rfl, bl_drewN (bl_alloc hbl _) _⟩
        case measure => simp [intOf]; omega
      · have c3 := (HC.out (k - 1) (by omega)).1
        have c3 := (hbl.cell (p := ⟨b, off + (k - 1) * 2, none⟩) hb).trans c3
        have f3 := f3 (by omega)
        rw [show (l.getD (k - 1) (0, 0)).1 = F - L by omega] at c3
        have hkd : decide (0 < k) = true := by simp; omega
        have g0 : 0 ≤ (k : Int) - 1 := by omega
        have g1 : (k : Int) - 1 < (l.length : Int) := by omega
        clear f3
        go_wp2
        have hw1 : IntKind.i64.wrap (F + S - F) = S := by rw [IntKind.wrap_i64]; omega
        have hw2 : IntKind.i64.wrap (F - L + L) = F := by rw [IntKind.wrap_i64]; omega
        go_quiet (fail)
        clear hw1 hw2
        go_wp2
        go_roundw
        case rel => exact ⟨k + 1, by omega, by go_num, bl_drewN (bl_alloc hbl _) _⟩
        case measure => simp [intOf]; omega
    · have hkl : k = l.length := by omega
      subst hkl
      have h1 := H1.out (by decide)
      have H1' := Lib.hid h1
      have hb1 : ((l.length : Int) == 1) = true := by simp; omega
      clear h1
      go_wp2_with (go_at_call 17; refine (awake_any _).mono ?_; rintro e w3 ⟨rfl, hb3⟩)
      go_ret
      exact ⟨rfl, bl_then (bl_then hbw hbl) hb3⟩
set_option maxHeartbeats 2000000 in
set_option maxRecDepth 100000 in
theorem holds_3 (S L t : Int) (w : World) (l : List (Int × Int)) (ha : asgV 3 S L t = (l, 0)) (ho : WinsOk 3 S L t l) :
    Calls Try.prog 5 #[.agg #[.int .i64 3, .int .i64 S, .int .i64 L], .int .i64 t] w fun e w' => e = .returned (.bool true) ∧ Below w.heap.size w w' := by
  obtain ⟨s1, s2, t1, t2, l1, l2, l0, each, one, two, few⟩ := ho
  have HA := Lib.hid ha
  have HE := Lib.hid each
  have H1 := Lib.hid one
  have H2 := Lib.hid two
  have _ := l1
  clear ha each one two l1
  go_enter Try.func5, Try.ntmps5
  go_wp2_with (fail)
  refine (assign_any 3 S L t _ _ _ HA.out).mono ?_
  rintro e w1 ⟨v1, rfl, hown1, hb1⟩
  obtain ⟨A1, c1, rfl, hc1, hr1⟩ := own_reads hown1
  have q0 : w1.cell? ⟨w.heap.size, 0, none⟩ = some (.int .i64 3) := (hb1.cell (p := ⟨w.heap.size, 0, none⟩) (by simp)).trans (by go_simp)
  have q1 : w1.cell? ⟨w.heap.size, 1, none⟩ = some (.int .i64 S) := (hb1.cell (p := ⟨w.heap.size, 1, none⟩) (by simp)).trans (by go_simp)
  have q2 : w1.cell? ⟨w.heap.size, 2, none⟩ = some (.int .i64 L) := (hb1.cell (p := ⟨w.heap.size, 2, none⟩) (by simp)).trans (by go_simp)
  have hz : w.heap.size < w1.heap.size := by have := hb1.size; simp at this; omega
  have hbw : Below w.heap.size w w1 := bl_then (bl_alloc (Below.refl _ _) _) hb1
  clear hown1 hb1
  rcases hr1.cases with hnil | ⟨b, off, rfl, hb, hpos, hcell⟩
  · exfalso
    have := H1.out (by decide)
    rw [hnil] at this
    simp at this
  have HC := Lib.hid hcell
  clear hr1 hcell
  go_wp2
  go_loopw [7] (fun i wr => ∃ k : Nat, k ≤ l.length ∧ i = .int .i64 k ∧ Below w1.heap.size w1 wr) (fun i _ => l.length - (intOf i).toNat)
  case atStart => exact ⟨0, Nat.zero_le _, rfl, Below.refl _ _⟩
  case round =>
    obtain ⟨k, hk, rfl, hbl⟩ := hrel
    have q0 := (hbl.cell (p := ⟨w.heap.size, 0, none⟩) hz).trans q0
    have q1 := (hbl.cell (p := ⟨w.heap.size, 1, none⟩) hz).trans q1
    have q2 := (hbl.cell (p := ⟨w.heap.size, 2, none⟩) hz).trans q2
    have hsz := hbl.size
    have hzr : w.heap.size < wr.heap.size := by omega
    by_cases hlt : k < l.length
    · obtain ⟨F, hF, f1, f2, f3, f4, f5⟩ := HE.out k hlt
      obtain ⟨c1, c2⟩ := HC.out k hlt
      rw [hF] at c1 c2
      have c1 := (hbl.cell (p := ⟨b, off + k * 2, none⟩) hb).trans c1
      have c2 := (hbl.cell (p := ⟨b, off + k * 2 + 1, none⟩) hb).trans c2
      dsimp only at c1 c2
      have hbr : b < wr.heap.size := by omega
      have f6 : -2251799813685248 ≤ F := by omega
      have d1 : decide (t < F) = false := by simp; omega
      have d2 : decide (F + S ≤ t) = false := by simp; omega
      have _ := f4
      clear hF f4 f5
      by_cases hk0 : k = 0
      · subst hk0
        simp only [Nat.zero_mul, Nat.add_zero] at c1 c2
        clear f3
        go_wp2
        have hw1 : IntKind.i64.wrap (F + S - F) = S := by rw [IntKind.wrap_i64]; omega
        have hw2 : IntKind.i64.wrap (F - L + L) = F := by rw [IntKind.wrap_i64]; omega
        go_quiet (fail)
        clear hw1 hw2
        go_wp2
        go_roundw
        case rel => exact ⟨1, by omega, rfl, bl_drewN (bl_alloc hbl _) _⟩
        case measure => simp [intOf]; omega
      · have c3 := (HC.out (k - 1) (by omega)).1
        have c3 := (hbl.cell (p := ⟨b, off + (k - 1) * 2, none⟩) hb).trans c3
        have f3 := f3 (by omega)
        rw [show (l.getD (k - 1) (0, 0)).1 = F - L by omega] at c3
        have hkd : decide (0 < k) = true := by simp; omega
        have g0 : 0 ≤ (k : Int) - 1 := by omega
        have g1 : (k : Int) - 1 < (l.length : Int) := by omega
        clear f3
        go_wp2
        have hw1 : IntKind.i64.wrap (F + S - F) = S := by rw [IntKind.wrap_i64]; omega
        have hw2 : IntKind.i64.wrap (F - L + L) = F := by rw [IntKind.wrap_i64]; omega
        go_quiet (fail)
        clear hw1 hw2
        go_wp2
        go_roundw
        case rel => exact ⟨k + 1, by omega, by go_num, bl_drewN (bl_alloc hbl _) _⟩
        case measure => simp [intOf]; omega
    · have hkl : k = l.length := by omega
      subst hkl
      have h1 := H1.out (by decide)
      have H1' := Lib.hid h1
      have hb1 : ((l.length : Int) == 1) = true := by simp; omega
      clear h1
      go_wp2_with (go_at_call 17; refine (awake_any _).mono ?_; rintro e w3 ⟨rfl, hb3⟩)
      go_ret
      exact ⟨rfl, bl_then (bl_then hbw hbl) hb3⟩
set_option maxHeartbeats 2000000 in
set_option maxRecDepth 100000 in
theorem holds_2 (S L t : Int) (w : World) (l : List (Int × Int)) (ha : asgV 2 S L t = (l, 0)) (ho : WinsOk 2 S L t l) :
    Calls Try.prog 5 #[.agg #[.int .i64 2, .int .i64 S, .int .i64 L], .int .i64 t] w fun e w' => e = .returned (.bool true) ∧ Below w.heap.size w w' := by
  obtain ⟨s1, s2, t1, t2, l1, l2, l0, each, one, two, few⟩ := ho
  have HA := Lib.hid ha
  have HE := Lib.hid each
  have H1 := Lib.hid one
  have H2 := Lib.hid (two rfl)
  have l1b := l1 rfl
  clear ha each one two l1
  go_enter Try.func5, Try.ntmps5
  go_wp2_with (fail)
  refine (assign_any 2 S L t _ _ _ HA.out).mono ?_
  rintro e w1 ⟨v1, rfl, hown1, hb1⟩
  obtain ⟨A1, c1, rfl, hc1, hr1⟩ := own_reads hown1
  have q0 : w1.cell? ⟨w.heap.size, 0, none⟩ = some (.int .i64 2) := (hb1.cell (p := ⟨w.heap.size, 0, none⟩) (by simp)).trans (by go_simp)
  have q1 : w1.cell? ⟨w.heap.size, 1, none⟩ = some (.int .i64 S) := (hb1.cell (p := ⟨w.heap.size, 1, none⟩) (by simp)).trans (by go_simp)
  have q2 : w1.cell? ⟨w.heap.size, 2, none⟩ = some (.int .i64 L) := (hb1.cell (p := ⟨w.heap.size, 2, none⟩) (by simp)).trans (by go_simp)
  have hz : w.heap.size < w1.heap.size := by have := hb1.size; simp at this; omega
  have hbw : Below w.heap.size w w1 := bl_then (bl_alloc (Below.refl _ _) _) hb1
  clear hown1 hb1
  rcases hr1.cases with hnil | ⟨b, off, rfl, hb, hpos, hcell⟩
  · subst hnil
    clear hr1
    simp only [List.length_nil] at hc1 ⊢
    go_wp2
    refine wp_loop_rounds 1 ?_
    rw [rounds_succ]
    have H2' := H2.out
    simp only [List.length_nil] at H2'
    by_cases hq : (0 : Int) = S / L
    · have hb1 : ((0 : Int) == S / L) = true := by simpa using hq
      clear hq H2'
      go_wp2_with (go_at_call 17; refine (awake_any _).mono ?_; rintro e w3 ⟨rfl, hb3⟩)
      go_ret
      exact ⟨rfl, bl_then hbw hb3⟩
    · have hb1 : ((0 : Int) == S / L) = false := by simpa using hq
      have h2 : (0 : Int) = (S + L - 1) / L := by simpa using H2'.resolve_left (by simpa using hq)
      have hb2 : ((0 : Int) == (S + L - 1) / L) = true := by simpa using h2
      clear hq h2 H2'
      go_wp2_with (go_at_call 17; refine (awake_any _).mono ?_; rintro e w3 ⟨rfl, hb3⟩)
      go_ret
      exact ⟨rfl, bl_then hbw hb3⟩
  have HC := Lib.hid hcell
  clear hr1 hcell
  go_wp2
  go_loopw [7] (fun i wr => ∃ k : Nat, k ≤ l.length ∧ i = .int .i64 k ∧ Below w1.heap.size w1 wr) (fun i _ => l.length - (intOf i).toNat)
  case atStart => exact ⟨0, Nat.zero_le _, rfl, Below.refl _ _⟩
  case round =>
    obtain ⟨k, hk, rfl, hbl⟩ := hrel
    have q0 := (hbl.cell (p := ⟨w.heap.size, 0, none⟩) hz).trans q0
    have q1 := (hbl.cell (p := ⟨w.heap.size, 1, none⟩) hz).trans q1
    have q2 := (hbl.cell (p := ⟨w.heap.size, 2, none⟩) hz).trans q2
    have hsz := hbl.size
    have hzr : w.heap.size < wr.heap.size := by omega
    by_cases hlt : k < l.length
    · obtain ⟨F, hF, f1, f2, f3, f4, f5⟩ := HE.out k hlt
      obtain ⟨c1, c2⟩ := HC.out k hlt
      rw [hF] at c1 c2
      have c1 := (hbl.cell (p := ⟨b, off + k * 2, none⟩) hb).trans c1
      have c2 := (hbl.cell (p := ⟨b, off + k * 2 + 1, none⟩) hb).trans c2
      dsimp only at c1 c2
      have hbr : b < wr.heap.size := by omega
      have f6 : -2251799813685248 ≤ F := by omega
      have d1 : decide (t < F) = false := by simp; omega
      have d2 : decide (F + S ≤ t) = false := by simp; omega
      have hm : F.tmod L = 0 := Int.tmod_eq_zero_of_dvd (Int.dvd_of_emod_eq_zero (f4 rfl))
      clear hF f4 f5
      by_cases hk0 : k = 0
      · subst hk0
        simp only [Nat.zero_mul, Nat.add_zero] at c1 c2
        clear f3
        go_wp2
        have hw1 : IntKind.i64.wrap (F + S - F) = S := by rw [IntKind.wrap_i64]; omega
        have hw2 : IntKind.i64.wrap (F - L + L) = F := by rw [IntKind.wrap_i64]; omega
        go_quiet (fail)
        clear hw1 hw2
        go_wp2
        go_roundw
        case rel => exact ⟨1, by omega, rfl, bl_drewN (bl_alloc hbl _) _⟩
        case measure => simp [intOf]; omega
      · have c3 := (HC.out (k - 1) (by omega)).1
        have c3 := (hbl.cell (p := ⟨b, off + (k - 1) * 2, none⟩) hb).trans c3
        have f3 := f3 (by omega)
        rw [show (l.getD (k - 1) (0, 0)).1 = F - L by omega] at c3
        have hkd : decide (0 < k) = true := by simp; omega
        have g0 : 0 ≤ (k : Int) - 1 := by omega
        have g1 : (k : Int) - 1 < (l.length : Int) := by omega
        clear f3
        go_wp2
        have hw1 : IntKind.i64.wrap (F + S - F) = S := by rw [IntKind.wrap_i64]; omega
        have hw2 : IntKind.i64.wrap (F - L + L) = F := by rw [IntKind.wrap_i64]; omega
        go_quiet (fail)
        clear hw1 hw2
        go_wp2
        go_roundw
        case rel => exact ⟨k + 1, by omega, by go_num, bl_drewN (bl_alloc hbl _) _⟩
        case measure => simp [intOf]; omega
    · have hkl : k = l.length := by omega
      subst hkl
      by_cases hq : (l.length : Int) = S / L
      · have hb1 : ((l.length : Int) == S / L) = true := by simpa using hq
        clear hq
        have l1' := l1b
        go_wp2_with (go_at_call 17; refine (awake_any _).mono ?_; rintro e w3 ⟨rfl, hb3⟩)
        go_ret
        exact ⟨rfl, bl_then (bl_then hbw hbl) hb3⟩
      · have hb1 : ((l.length : Int) == S / L) = false := by simpa using hq
        have h2 : (l.length : Int) = (S + L - 1) / L := H2.out.resolve_left hq
        have hb2 : ((l.length : Int) == (S + L - 1) / L) = true := by simpa using h2
        clear hq h2
        go_wp2_with (go_at_call 17; refine (awake_any _).mono ?_; rintro e w3 ⟨rfl, hb3⟩)
        go_ret
        exact ⟨rfl, bl_then (bl_then hbw hbl) hb3⟩

theorem holds_walk (K S L t : Int) (w : World) (h0 : (Lit.int .i64 K).wf = true) (h1 : (Lit.int .i64 S).wf = true) (h2 : (Lit.int .i64 L).wf = true) (h3 : (Lit.int .i64 t).wf = true) :
    Calls Try.prog 5 #[.agg #[.int .i64 K, .int .i64 S, .int .i64 L], .int .i64 t] w fun e w' => e = .returned (.bool true) ∧ Below w.heap.size w w' := by
  by_cases hok : chkV K S L = 0 ∧ -1125899906842624 ≤ t ∧ t ≤ 1125899906842624
  · have ha : asgV K S L t = (winsL K S L t, 0) := by unfold asgV; rw [if_pos hok]
    have ho := winsOk hok.1 hok.2.1 hok.2.2
    rcases chkV_kind hok.1 with rfl | rfl | rfl
    · exact holds_1 S L t w _ ha ho
    · exact holds_2 S L t w _ ha ho
    · exact holds_3 S L t w _ ha ho
  · exact holds_no K S L t w (by unfold asgV; rw [if_neg hok])
end Go.Proofs.Ytgpmceimhfkncaa
