/- Windows of a moved time are the time's windows, moved; and the walk of the law WindowMoved. Conditions: none. -/
import Derived.Test.YtgpmceimhfkncaaE0
namespace Go.Proofs.Ytgpmceimhfkncaa
open Go.RowKit
set_option linter.unusedVariables false
set_option linter.unusedSimpArgs false

def shiftW (st : Int) (p : Int × Int) : Int × Int := (p.1 + st, p.2 + st)
theorem flr_shift (t b n : Int) (hb : 1 ≤ b) : flr (t + b * n) b = flr t b + b * n := by
  unfold flr
  rw [Int.add_mul_ediv_left _ _ (by omega), Int.add_mul, Int.mul_comm n b]
theorem slF_shift (t S L n : Int) (hL : 1 ≤ L) (k : Nat) : slF (t + L * n) S L k = slF t S L k + L * n := by
  unfold slF
  rw [show t + L * n - S = t - S + L * n by omega, flr_shift _ _ _ hL]
  omega
theorem slN_shift (t S L n : Int) (hL : 1 ≤ L) : slN (t + L * n) S L = slN t S L := by
  unfold slN
  rw [slF_shift t S L n hL, show t + L * n - (slF t S L 0 + L * n) = t - slF t S L 0 by omega]
theorem wins_1 (S L t n : Int) (h0 : chkV 1 S L = 0) : winsL 1 S L (t + S * n) = (winsL 1 S L t).map (shiftW (S * n)) := by
  have hS : plainB S L = true := by
    cases hp : plainB S L
    · simp [chkV, hp] at h0
    · rfl
  obtain ⟨g1, g2, g3⟩ := plainB_bd hS
  simp [winsL, shiftW, flr_shift t S n g1]
  omega
theorem wins_2 (S L t n : Int) (h0 : chkV 2 S L = 0) : winsL 2 S L (t + L * n) = (winsL 2 S L t).map (shiftW (L * n)) := by
  have hS : slidB S L = true := by
    cases hp : slidB S L
    · simp [chkV, hp] at h0
    · rfl
  obtain ⟨g1, g2, g3, g4, g5⟩ := slidB_bd hS
  simp only [winsL, if_pos, if_neg, show ¬ (2 : Int) = 1 by decide, ↓reduceIte, slN_shift t S L n g3, slL, List.map_map]
  refine List.map_congr_left fun k _ => ?_
  simp [shiftW, slF_shift t S L n g3]
  omega
theorem wins_3 (S L t n : Int) : winsL 3 S L (t + n) = (winsL 3 S L t).map (shiftW n) := by
  simp [winsL, shiftW]
  omega
theorem wins_bd {K S L t : Int} (h0 : chkV K S L = 0) (t1 : -1125899906842624 ≤ t) (t2 : t ≤ 1125899906842624) : 1 ≤ S ∧ S ≤ 1099511627776 ∧ (K = 2 → 1 ≤ L) ∧ L ≤ 1099511627776 ∧ 0 ≤ L ∧ ∀ k, k < (winsL K S L t).length → ∃ F, (winsL K S L t).getD k (0, 0) = (F, F + S) ∧ F ≤ t ∧ t < F + S := by
  have ho : 1 ≤ S ∧ S ≤ 1099511627776 ∧ (K = 2 → 1 ≤ L) ∧ L ≤ 1099511627776 ∧ 0 ≤ L := by
    rcases chkV_kind h0 with rfl | rfl | rfl
    · have hS : plainB S L = true := by
        cases hp : plainB S L
        · simp [chkV, hp] at h0
        · rfl
      obtain ⟨g1, g2, g3⟩ := plainB_bd hS
      exact ⟨g1, g2, fun h => by omega, by omega, by omega⟩
    · have hS : slidB S L = true := by
        cases hp : slidB S L
        · simp [chkV, hp] at h0
        · rfl
      obtain ⟨g1, g2, g3, g4, g5⟩ := slidB_bd hS
      exact ⟨g1, g2, fun _ => g3, g4, by omega⟩
    · have hS : plainB S L = true := by
        cases hp : plainB S L
        · simp [chkV, hp] at h0
        · rfl
      obtain ⟨g1, g2, g3⟩ := plainB_bd hS
      exact ⟨g1, g2, fun h => by omega, by omega, by omega⟩
  refine ⟨ho.1, ho.2.1, ho.2.2.1, ho.2.2.2.1, ho.2.2.2.2, fun k hk => ?_⟩
  obtain ⟨F, a, b, c, _⟩ := wins_at h0 t1 t2 k hk
  exact ⟨F, a, b, c⟩
theorem getD_map_shift (st : Int) (l : List (Int × Int)) (k : Nat) (h : k < l.length) : (l.map (shiftW st)).getD k (0, 0) = shiftW st (l.getD k (0, 0)) := by
  simp [List.getD_eq_getElem?_getD, List.getElem?_map, List.getElem?_eq_getElem h]

/-- by > MaxTime / 2^31, or Assign refuses: the law says awake. -/
theorem moved_no (K S L t n : Int) (w : World) (ha : asgV K S L t = ([], 2)) :
    Calls Try.prog 8 #[.agg #[.int .i64 K, .int .i64 S, .int .i64 L], .int .i64 t, .int .i32 n] w fun e w' => e = .returned (.bool true) ∧ Below w.heap.size w w' := by
  have HA := Lib.hid ha
  clear ha
  by_cases k1 : K = 1
  · subst k1
    go_enter Try.func8, Try.ntmps8
    go_wp2_with (fail)
    refine (assign_any _ S L t _ _ _ HA.out).mono ?_
    rintro e w1 ⟨v1, rfl, hown1, hb1⟩
    clear hown1
    go_wp2_with (go_at_call 17; refine (awake_any _).mono ?_; rintro e w3 ⟨rfl, hb3⟩)
    go_ret
    refine ⟨rfl, ?_⟩
    repeat first | exact Below.refl _ _ | refine Below.drew ?_ | refine bl_alloc ?_ _ | refine bl_then ?_ hb3 | refine bl_then ?_ hb1
  by_cases k3 : K = 3
  · subst k3
    go_enter Try.func8, Try.ntmps8
    go_wp2_with (fail)
    refine (assign_any _ S L t _ _ _ HA.out).mono ?_
    rintro e w1 ⟨v1, rfl, hown1, hb1⟩
    clear hown1
    go_wp2_with (go_at_call 17; refine (awake_any _).mono ?_; rintro e w3 ⟨rfl, hb3⟩)
    go_ret
    refine ⟨rfl, ?_⟩
    repeat first | exact Below.refl _ _ | refine Below.drew ?_ | refine bl_alloc ?_ _ | refine bl_then ?_ hb3 | refine bl_then ?_ hb1
  · have h1 : (K == 1) = false := by simpa using k1
    have h3 : (K == 3) = false := by simpa using k3
    clear k1 k3
    go_enter Try.func8, Try.ntmps8
    go_wp2_with (fail)
    refine (assign_any _ S L t _ _ _ HA.out).mono ?_
    rintro e w1 ⟨v1, rfl, hown1, hb1⟩
    clear hown1
    go_wp2_with (go_at_call 17; refine (awake_any _).mono ?_; rintro e w3 ⟨rfl, hb3⟩)
    go_ret
    refine ⟨rfl, ?_⟩
    repeat first | exact Below.refl _ _ | refine Below.drew ?_ | refine bl_alloc ?_ _ | refine bl_then ?_ hb3 | refine bl_then ?_ hb1

theorem mul_bd (b n : Int) (h1 : 1 ≤ b) (h2 : b ≤ 524288) (n1 : -2147483648 ≤ n) (n2 : n ≤ 2147483647) : -1125899906842624 ≤ b * n ∧ b * n ≤ 1125899906842624 := by
  have a1 : b * (-2147483648) ≤ b * n := Int.mul_le_mul_of_nonneg_left n1 (by omega)
  have a2 : b * n ≤ b * 2147483647 := Int.mul_le_mul_of_nonneg_left n2 (by omega)
  constructor <;> omega

set_option maxHeartbeats 2000000 in
set_option maxRecDepth 100000 in
theorem moved_1 (S L t n : Int) (w : World) (h0 : chkV 1 S L = 0) (t1 : -1125899906842624 ≤ t) (t2 : t ≤ 1125899906842624) (n1 : -2147483648 ≤ n) (n2 : n ≤ 2147483647) :
    Calls Try.prog 8 #[.agg #[.int .i64 1, .int .i64 S, .int .i64 L], .int .i64 t, .int .i32 n] w fun e w' => e = .returned (.bool true) ∧ Below w.heap.size w w' := by
  obtain ⟨s1, s2, l1, l2, l0, each⟩ := wins_bd h0 t1 t2
  have ha : asgV 1 S L t = (winsL 1 S L t, 0) := by unfold asgV; rw [if_pos ⟨h0, t1, t2⟩]
  skip
  clear l1
  have hs := wins_1 S L t n h0
  obtain ⟨st, hst⟩ : ∃ st, st = S * n := ⟨_, rfl⟩
  rw [← hst] at hs
  have hb2 : asgV 1 S L (t + st) = if -1125899906842624 ≤ t + st ∧ t + st ≤ 1125899906842624 then ((winsL 1 S L t).map (shiftW st), 0) else ([], 2) := by
    unfold asgV
    by_cases hr : -1125899906842624 ≤ t + st ∧ t + st ≤ 1125899906842624
    · rw [if_pos ⟨h0, hr⟩, if_pos hr, hs]
    · rw [if_neg (fun h => hr h.2), if_neg hr]
  generalize winsL 1 S L t = l at *
  have HA := Lib.hid ha
  have HB := Lib.hid hb2
  have HE := Lib.hid each
  clear ha hb2 each hs h0
  by_cases hby : 524288 < S
  · go_enter Try.func8, Try.ntmps8
    go_wp2_with (fail)
    refine (assign_any _ S L t _ _ _ HA.out).mono ?_
    rintro e w1 ⟨v1, rfl, hown1, hb1⟩
    clear hown1
    go_wp2_with (go_at_call 17; refine (awake_any _).mono ?_; rintro e w3 ⟨rfl, hb3⟩)
    go_ret
    refine ⟨rfl, ?_⟩
    repeat first | exact Below.refl _ _ | refine Below.drew ?_ | refine bl_alloc ?_ _ | refine bl_then ?_ hb3 | refine bl_then ?_ hb1
  · have p1 : -1125899906842624 ≤ st := by rw [hst]; exact (mul_bd S n s1 (by omega) n1 n2).1
    have p2 : st ≤ 1125899906842624 := by rw [hst]; exact (mul_bd S n s1 (by omega) n1 n2).2
    have hby' : S ≤ 524288 := by omega
    have hm : wrap64 (S * n) = st := by rw [← hst]; unfold wrap64; omega
    clear hst hby
    go_enter Try.func8, Try.ntmps8
    go_wp2_with (fail)
    refine (assign_any _ S L t _ _ _ HA.out).mono ?_
    rintro e w1 ⟨v1, rfl, hown1, hb1⟩
    obtain ⟨A1, c1, rfl, hc1, hr1⟩ := own_reads hown1
    have q0 : w1.cell? ⟨w.heap.size, 0, none⟩ = some (.int .i64 1) := (hb1.cell (p := ⟨w.heap.size, 0, none⟩) (by simp)).trans (by go_simp)
    have q1 : w1.cell? ⟨w.heap.size, 1, none⟩ = some (.int .i64 S) := (hb1.cell (p := ⟨w.heap.size, 1, none⟩) (by simp)).trans (by go_simp)
    have q2 : w1.cell? ⟨w.heap.size, 2, none⟩ = some (.int .i64 L) := (hb1.cell (p := ⟨w.heap.size, 2, none⟩) (by simp)).trans (by go_simp)
    have hz : w.heap.size < w1.heap.size := by have := hb1.size; simp at this; omega
    have hbw : Below w.heap.size w w1 := bl_then (bl_alloc (Below.refl _ _) _) hb1
    clear hown1 hb1
    go_wp2_with (fail)
    have e0 := ext_cell q0
    by_cases hr : -1125899906842624 ≤ t + st ∧ t + st ≤ 1125899906842624
    · have HB2 : Hid (asgV 1 S L (t + st) = (l.map (shiftW st), 0)) := by have := HB.out; rw [if_pos hr] at this; exact Lib.hid this
      obtain ⟨r1, r2⟩ := hr
      refine (assign_any _ S L (t + st) _ _ _ HB2.out).mono ?_
      rintro e w2 ⟨v2, rfl, hown2, hb2⟩
      obtain ⟨A2, c2, rfl, hc2, hr2⟩ := own_reads hown2
      rw [List.length_map] at hc2 ⊢
      have hr1 := hr1.below hb2
      have hbw2 := bl_then hbw hb2
      rcases hr1.cases with rfl | ⟨b1, o1, rfl, hbl1, hpos, hcell1⟩
      · clear hr1 hr2 hown2 hb2 e0
        simp only [List.length_nil] at hc1 hc2 ⊢
        go_wp2
        refine wp_loop_rounds 1 ?_
        rw [rounds_succ]
        go_wp2_with (go_at_call 17; refine (awake_any _).mono ?_; rintro e w3 ⟨rfl, hb3⟩)
        go_ret
        exact ⟨rfl, bl_then hbw2 hb3⟩
      · rcases hr2.cases with hnil | ⟨b2, o2, rfl, hbl2, _, hcell2⟩
        · exfalso
          have := congrArg List.length hnil
          simp at this
          rw [this] at hpos
          simp at hpos
        have hml := hr1.1
        have hbl1' : b1 < w2.heap.size := by have := hb2.size; omega
        have HC1 := Lib.hid hcell1
        have HC2 := Lib.hid hcell2
        clear hr1 hr2 hown2 hb2 e0 hcell1 hcell2
        go_wp2
        go_loopw [13] (fun i wr => ∃ k : Nat, k ≤ l.length ∧ i = .int .i64 k ∧ Below w2.heap.size w2 wr) (fun i _ => l.length - (intOf i).toNat)
        case atStart => exact ⟨0, Nat.zero_le _, rfl, Below.refl _ _⟩
        case round =>
          obtain ⟨k, hk, rfl, hbl⟩ := hrel
          by_cases hlt : k < l.length
          · obtain ⟨F, hF, f1, f2⟩ := HE.out k hlt
            obtain ⟨g1, g2⟩ := HC1.out k hlt
            obtain ⟨g3, g4⟩ := HC2.out k (by rw [List.length_map]; exact hlt)
            rw [getD_map_shift st l k hlt, hF] at g3 g4
            rw [hF] at g1 g2
            dsimp only [shiftW] at g1 g2 g3 g4
            have g1 := (hbl.cell (p := ⟨b1, o1 + k * 2, none⟩) hbl1').trans g1
            have g2 := (hbl.cell (p := ⟨b1, o1 + k * 2 + 1, none⟩) hbl1').trans g2
            have g3 := (hbl.cell (p := ⟨b2, o2 + k * 2, none⟩) hbl2).trans g3
            have g4 := (hbl.cell (p := ⟨b2, o2 + k * 2 + 1, none⟩) hbl2).trans g4
            have hw1 : IntKind.i64.wrap (F + st) = F + st := by rw [IntKind.wrap_i64]; omega
            have hw2 : IntKind.i64.wrap (F + S + st) = F + S + st := by rw [IntKind.wrap_i64]; omega
            clear hF
            go_wp2
            go_quiet (fail)
            clear hw1 hw2
            go_wp2
            go_roundw
            case rel => exact ⟨k + 1, by omega, by go_num, bl_drewN hbl _⟩
            case measure => simp [intOf]; omega
          · go_wp2_with (go_at_call 17; refine (awake_any _).mono ?_; rintro e w3 ⟨rfl, hb3⟩)
            go_ret
            exact ⟨rfl, bl_then (bl_then hbw2 hbl) hb3⟩
    · have HB2 : Hid (asgV 1 S L (t + st) = ([], 2)) := by have := HB.out; rw [if_neg hr] at this; exact Lib.hid this
      have hr' : t + st < -1125899906842624 ∨ 1125899906842624 < t + st := by omega
      clear hr
      refine (assign_any _ S L (t + st) _ _ _ HB2.out).mono ?_
      rintro e w2 ⟨v2, rfl, hown2, hb2⟩
      clear hown2 hr1
      rcases hr' with hr | hr
      all_goals
        go_wp2_with (go_at_call 17; refine (awake_any _).mono ?_; rintro e w3 ⟨rfl, hb3⟩)
        go_ret
        exact ⟨rfl, bl_then (bl_then hbw hb2) hb3⟩
set_option maxHeartbeats 2000000 in
set_option maxRecDepth 100000 in
theorem moved_2 (S L t n : Int) (w : World) (h0 : chkV 2 S L = 0) (t1 : -1125899906842624 ≤ t) (t2 : t ≤ 1125899906842624) (n1 : -2147483648 ≤ n) (n2 : n ≤ 2147483647) :
    Calls Try.prog 8 #[.agg #[.int .i64 2, .int .i64 S, .int .i64 L], .int .i64 t, .int .i32 n] w fun e w' => e = .returned (.bool true) ∧ Below w.heap.size w w' := by
  obtain ⟨s1, s2, l1, l2, l0, each⟩ := wins_bd h0 t1 t2
  have ha : asgV 2 S L t = (winsL 2 S L t, 0) := by unfold asgV; rw [if_pos ⟨h0, t1, t2⟩]
  have l1b := l1 rfl
  clear l1
  have hs := wins_2 S L t n h0
  obtain ⟨st, hst⟩ : ∃ st, st = L * n := ⟨_, rfl⟩
  rw [← hst] at hs
  have hb2 : asgV 2 S L (t + st) = if -1125899906842624 ≤ t + st ∧ t + st ≤ 1125899906842624 then ((winsL 2 S L t).map (shiftW st), 0) else ([], 2) := by
    unfold asgV
    by_cases hr : -1125899906842624 ≤ t + st ∧ t + st ≤ 1125899906842624
    · rw [if_pos ⟨h0, hr⟩, if_pos hr, hs]
    · rw [if_neg (fun h => hr h.2), if_neg hr]
  generalize winsL 2 S L t = l at *
  have HA := Lib.hid ha
  have HB := Lib.hid hb2
  have HE := Lib.hid each
  clear ha hb2 each hs h0
  by_cases hby : 524288 < L
  · go_enter Try.func8, Try.ntmps8
    go_wp2_with (fail)
    refine (assign_any _ S L t _ _ _ HA.out).mono ?_
    rintro e w1 ⟨v1, rfl, hown1, hb1⟩
    clear hown1
    go_wp2_with (go_at_call 17; refine (awake_any _).mono ?_; rintro e w3 ⟨rfl, hb3⟩)
    go_ret
    refine ⟨rfl, ?_⟩
    repeat first | exact Below.refl _ _ | refine Below.drew ?_ | refine bl_alloc ?_ _ | refine bl_then ?_ hb3 | refine bl_then ?_ hb1
  · have p1 : -1125899906842624 ≤ st := by rw [hst]; exact (mul_bd L n l1b (by omega) n1 n2).1
    have p2 : st ≤ 1125899906842624 := by rw [hst]; exact (mul_bd L n l1b (by omega) n1 n2).2
    have hby' : L ≤ 524288 := by omega
    have hm : wrap64 (L * n) = st := by rw [← hst]; unfold wrap64; omega
    clear hst hby
    go_enter Try.func8, Try.ntmps8
    go_wp2_with (fail)
    refine (assign_any _ S L t _ _ _ HA.out).mono ?_
    rintro e w1 ⟨v1, rfl, hown1, hb1⟩
    obtain ⟨A1, c1, rfl, hc1, hr1⟩ := own_reads hown1
    have q0 : w1.cell? ⟨w.heap.size, 0, none⟩ = some (.int .i64 2) := (hb1.cell (p := ⟨w.heap.size, 0, none⟩) (by simp)).trans (by go_simp)
    have q1 : w1.cell? ⟨w.heap.size, 1, none⟩ = some (.int .i64 S) := (hb1.cell (p := ⟨w.heap.size, 1, none⟩) (by simp)).trans (by go_simp)
    have q2 : w1.cell? ⟨w.heap.size, 2, none⟩ = some (.int .i64 L) := (hb1.cell (p := ⟨w.heap.size, 2, none⟩) (by simp)).trans (by go_simp)
    have hz : w.heap.size < w1.heap.size := by have := hb1.size; simp at this; omega
    have hbw : Below w.heap.size w w1 := bl_then (bl_alloc (Below.refl _ _) _) hb1
    clear hown1 hb1
    go_wp2_with (fail)
    have e0 := ext_cell q0
    by_cases hr : -1125899906842624 ≤ t + st ∧ t + st ≤ 1125899906842624
    · have HB2 : Hid (asgV 2 S L (t + st) = (l.map (shiftW st), 0)) := by have := HB.out; rw [if_pos hr] at this; exact Lib.hid this
      obtain ⟨r1, r2⟩ := hr
      refine (assign_any _ S L (t + st) _ _ _ HB2.out).mono ?_
      rintro e w2 ⟨v2, rfl, hown2, hb2⟩
      obtain ⟨A2, c2, rfl, hc2, hr2⟩ := own_reads hown2
      rw [List.length_map] at hc2 ⊢
      have hr1 := hr1.below hb2
      have hbw2 := bl_then hbw hb2
      rcases hr1.cases with rfl | ⟨b1, o1, rfl, hbl1, hpos, hcell1⟩
      · clear hr1 hr2 hown2 hb2 e0
        simp only [List.length_nil] at hc1 hc2 ⊢
        go_wp2
        refine wp_loop_rounds 1 ?_
        rw [rounds_succ]
        go_wp2_with (go_at_call 17; refine (awake_any _).mono ?_; rintro e w3 ⟨rfl, hb3⟩)
        go_ret
        exact ⟨rfl, bl_then hbw2 hb3⟩
      · rcases hr2.cases with hnil | ⟨b2, o2, rfl, hbl2, _, hcell2⟩
        · exfalso
          have := congrArg List.length hnil
          simp at this
          rw [this] at hpos
          simp at hpos
        have hml := hr1.1
        have hbl1' : b1 < w2.heap.size := by have := hb2.size; omega
        have HC1 := Lib.hid hcell1
        have HC2 := Lib.hid hcell2
        clear hr1 hr2 hown2 hb2 e0 hcell1 hcell2
        go_wp2
        go_loopw [13] (fun i wr => ∃ k : Nat, k ≤ l.length ∧ i = .int .i64 k ∧ Below w2.heap.size w2 wr) (fun i _ => l.length - (intOf i).toNat)
        case atStart => exact ⟨0, Nat.zero_le _, rfl, Below.refl _ _⟩
        case round =>
          obtain ⟨k, hk, rfl, hbl⟩ := hrel
          by_cases hlt : k < l.length
          · obtain ⟨F, hF, f1, f2⟩ := HE.out k hlt
            obtain ⟨g1, g2⟩ := HC1.out k hlt
            obtain ⟨g3, g4⟩ := HC2.out k (by rw [List.length_map]; exact hlt)
            rw [getD_map_shift st l k hlt, hF] at g3 g4
            rw [hF] at g1 g2
            dsimp only [shiftW] at g1 g2 g3 g4
            have g1 := (hbl.cell (p := ⟨b1, o1 + k * 2, none⟩) hbl1').trans g1
            have g2 := (hbl.cell (p := ⟨b1, o1 + k * 2 + 1, none⟩) hbl1').trans g2
            have g3 := (hbl.cell (p := ⟨b2, o2 + k * 2, none⟩) hbl2).trans g3
            have g4 := (hbl.cell (p := ⟨b2, o2 + k * 2 + 1, none⟩) hbl2).trans g4
            have hw1 : IntKind.i64.wrap (F + st) = F + st := by rw [IntKind.wrap_i64]; omega
            have hw2 : IntKind.i64.wrap (F + S + st) = F + S + st := by rw [IntKind.wrap_i64]; omega
            clear hF
            go_wp2
            go_quiet (fail)
            clear hw1 hw2
            go_wp2
            go_roundw
            case rel => exact ⟨k + 1, by omega, by go_num, bl_drewN hbl _⟩
            case measure => simp [intOf]; omega
          · go_wp2_with (go_at_call 17; refine (awake_any _).mono ?_; rintro e w3 ⟨rfl, hb3⟩)
            go_ret
            exact ⟨rfl, bl_then (bl_then hbw2 hbl) hb3⟩
    · have HB2 : Hid (asgV 2 S L (t + st) = ([], 2)) := by have := HB.out; rw [if_neg hr] at this; exact Lib.hid this
      have hr' : t + st < -1125899906842624 ∨ 1125899906842624 < t + st := by omega
      clear hr
      refine (assign_any _ S L (t + st) _ _ _ HB2.out).mono ?_
      rintro e w2 ⟨v2, rfl, hown2, hb2⟩
      clear hown2 hr1
      rcases hr' with hr | hr
      all_goals
        go_wp2_with (go_at_call 17; refine (awake_any _).mono ?_; rintro e w3 ⟨rfl, hb3⟩)
        go_ret
        exact ⟨rfl, bl_then (bl_then hbw hb2) hb3⟩
set_option maxHeartbeats 2000000 in
set_option maxRecDepth 100000 in
theorem moved_3 (S L t st : Int) (w : World) (h0 : chkV 3 S L = 0) (t1 : -1125899906842624 ≤ t) (t2 : t ≤ 1125899906842624) (n1 : -2147483648 ≤ st) (n2 : st ≤ 2147483647) :
    Calls Try.prog 8 #[.agg #[.int .i64 3, .int .i64 S, .int .i64 L], .int .i64 t, .int .i32 st] w fun e w' => e = .returned (.bool true) ∧ Below w.heap.size w w' := by
  obtain ⟨s1, s2, l1, l2, l0, each⟩ := wins_bd h0 t1 t2
  have ha : asgV 3 S L t = (winsL 3 S L t, 0) := by unfold asgV; rw [if_pos ⟨h0, t1, t2⟩]
  skip
  clear l1
  have hs := wins_3 S L t st
  have hb2 : asgV 3 S L (t + st) = if -1125899906842624 ≤ t + st ∧ t + st ≤ 1125899906842624 then ((winsL 3 S L t).map (shiftW st), 0) else ([], 2) := by
    unfold asgV
    by_cases hr : -1125899906842624 ≤ t + st ∧ t + st ≤ 1125899906842624
    · rw [if_pos ⟨h0, hr⟩, if_pos hr, hs]
    · rw [if_neg (fun h => hr h.2), if_neg hr]
  generalize winsL 3 S L t = l at *
  have HA := Lib.hid ha
  have HB := Lib.hid hb2
  have HE := Lib.hid each
  clear ha hb2 each hs h0
  by_cases hby : (524288 : Int) < 1
  · exact absurd hby (by decide)
  · have p1 : -1125899906842624 ≤ st := by omega
    have p2 : st ≤ 1125899906842624 := by omega
    go_enter Try.func8, Try.ntmps8
    go_wp2_with (fail)
    refine (assign_any _ S L t _ _ _ HA.out).mono ?_
    rintro e w1 ⟨v1, rfl, hown1, hb1⟩
    obtain ⟨A1, c1, rfl, hc1, hr1⟩ := own_reads hown1
    have q0 : w1.cell? ⟨w.heap.size, 0, none⟩ = some (.int .i64 3) := (hb1.cell (p := ⟨w.heap.size, 0, none⟩) (by simp)).trans (by go_simp)
    have q1 : w1.cell? ⟨w.heap.size, 1, none⟩ = some (.int .i64 S) := (hb1.cell (p := ⟨w.heap.size, 1, none⟩) (by simp)).trans (by go_simp)
    have q2 : w1.cell? ⟨w.heap.size, 2, none⟩ = some (.int .i64 L) := (hb1.cell (p := ⟨w.heap.size, 2, none⟩) (by simp)).trans (by go_simp)
    have hz : w.heap.size < w1.heap.size := by have := hb1.size; simp at this; omega
    have hbw : Below w.heap.size w w1 := bl_then (bl_alloc (Below.refl _ _) _) hb1
    clear hown1 hb1
    go_wp2_with (fail)
    have e0 := ext_cell q0
    by_cases hr : -1125899906842624 ≤ t + st ∧ t + st ≤ 1125899906842624
    · have HB2 : Hid (asgV 3 S L (t + st) = (l.map (shiftW st), 0)) := by have := HB.out; rw [if_pos hr] at this; exact Lib.hid this
      obtain ⟨r1, r2⟩ := hr
      refine (assign_any _ S L (t + st) _ _ _ HB2.out).mono ?_
      rintro e w2 ⟨v2, rfl, hown2, hb2⟩
      obtain ⟨A2, c2, rfl, hc2, hr2⟩ := own_reads hown2
      rw [List.length_map] at hc2 ⊢
      have hr1 := hr1.below hb2
      have hbw2 := bl_then hbw hb2
      rcases hr1.cases with rfl | ⟨b1, o1, rfl, hbl1, hpos, hcell1⟩
      · clear hr1 hr2 hown2 hb2 e0
        simp only [List.length_nil] at hc1 hc2 ⊢
        go_wp2
        refine wp_loop_rounds 1 ?_
        rw [rounds_succ]
        go_wp2_with (go_at_call 17; refine (awake_any _).mono ?_; rintro e w3 ⟨rfl, hb3⟩)
        go_ret
        exact ⟨rfl, bl_then hbw2 hb3⟩
      · rcases hr2.cases with hnil | ⟨b2, o2, rfl, hbl2, _, hcell2⟩
        · exfalso
          have := congrArg List.length hnil
          simp at this
          rw [this] at hpos
          simp at hpos
        have hml := hr1.1
        have hbl1' : b1 < w2.heap.size := by have := hb2.size; omega
        have HC1 := Lib.hid hcell1
        have HC2 := Lib.hid hcell2
        clear hr1 hr2 hown2 hb2 e0 hcell1 hcell2
        go_wp2
        go_loopw [13] (fun i wr => ∃ k : Nat, k ≤ l.length ∧ i = .int .i64 k ∧ Below w2.heap.size w2 wr) (fun i _ => l.length - (intOf i).toNat)
        case atStart => exact ⟨0, Nat.zero_le _, rfl, Below.refl _ _⟩
        case round =>
          obtain ⟨k, hk, rfl, hbl⟩ := hrel
          by_cases hlt : k < l.length
          · obtain ⟨F, hF, f1, f2⟩ := HE.out k hlt
            obtain ⟨g1, g2⟩ := HC1.out k hlt
            obtain ⟨g3, g4⟩ := HC2.out k (by rw [List.length_map]; exact hlt)
            rw [getD_map_shift st l k hlt, hF] at g3 g4
            rw [hF] at g1 g2
            dsimp only [shiftW] at g1 g2 g3 g4
            have g1 := (hbl.cell (p := ⟨b1, o1 + k * 2, none⟩) hbl1').trans g1
            have g2 := (hbl.cell (p := ⟨b1, o1 + k * 2 + 1, none⟩) hbl1').trans g2
            have g3 := (hbl.cell (p := ⟨b2, o2 + k * 2, none⟩) hbl2).trans g3
            have g4 := (hbl.cell (p := ⟨b2, o2 + k * 2 + 1, none⟩) hbl2).trans g4
            have hw1 : IntKind.i64.wrap (F + st) = F + st := by rw [IntKind.wrap_i64]; omega
            have hw2 : IntKind.i64.wrap (F + S + st) = F + S + st := by rw [IntKind.wrap_i64]; omega
            clear hF
            go_wp2
            go_quiet (fail)
            clear hw1 hw2
            go_wp2
            go_roundw
            case rel => exact ⟨k + 1, by omega, by go_num, bl_drewN hbl _⟩
            case measure => simp [intOf]; omega
          · go_wp2_with (go_at_call 17; refine (awake_any _).mono ?_; rintro e w3 ⟨rfl, hb3⟩)
            go_ret
            exact ⟨rfl, bl_then (bl_then hbw2 hbl) hb3⟩
    · have HB2 : Hid (asgV 3 S L (t + st) = ([], 2)) := by have := HB.out; rw [if_neg hr] at this; exact Lib.hid this
      have hr' : t + st < -1125899906842624 ∨ 1125899906842624 < t + st := by omega
      clear hr
      refine (assign_any _ S L (t + st) _ _ _ HB2.out).mono ?_
      rintro e w2 ⟨v2, rfl, hown2, hb2⟩
      clear hown2 hr1
      rcases hr' with hr | hr
      all_goals
        go_wp2_with (go_at_call 17; refine (awake_any _).mono ?_; rintro e w3 ⟨rfl, hb3⟩)
        go_ret
        exact ⟨rfl, bl_then (bl_then hbw hb2) hb3⟩

theorem moved_walk (K S L t n : Int) (w : World) (h0 : (Lit.int .i64 K).wf = true) (h1 : (Lit.int .i64 S).wf = true) (h2 : (Lit.int .i64 L).wf = true) (h3 : (Lit.int .i64 t).wf = true) (h4 : (Lit.int .i32 n).wf = true) :
    Calls Try.prog 8 #[.agg #[.int .i64 K, .int .i64 S, .int .i64 L], .int .i64 t, .int .i32 n] w fun e w' => e = .returned (.bool true) ∧ Below w.heap.size w w' := by
  by_cases hok : chkV K S L = 0 ∧ -1125899906842624 ≤ t ∧ t ≤ 1125899906842624
  · have hn : -2147483648 ≤ n ∧ n ≤ 2147483647 := by
      simp only [Lit.wf, Bool.and_eq_true, decide_eq_true_eq] at h4
      exact h4
    rcases chkV_kind hok.1 with rfl | rfl | rfl
    · exact moved_1 S L t n w hok.1 hok.2.1 hok.2.2 hn.1 hn.2
    · exact moved_2 S L t n w hok.1 hok.2.1 hok.2.2 hn.1 hn.2
    · exact moved_3 S L t n w hok.1 hok.2.1 hok.2.2 hn.1 hn.2
  · exact moved_no K S L t n w (by unfold asgV; rw [if_neg hok])
end Go.Proofs.Ytgpmceimhfkncaa
