/- The contracts of window.may and window.Apart, for every list that is read. Conditions: as each theorem states them. -/
import Derived.Test.YtgpmceimhfkncaaA2
import Derived.Test.YtgpmceimhfkncaaM0
namespace Go.Proofs.Ytgpmceimhfkncaa
open Go.RowKit
set_option linter.unusedVariables false
set_option linter.unusedSimpArgs false

/-- The slice at A reads as the windows l; it lies below block B. -/
def RdW (w : World) (B : Nat) (A : Option Addr) (l : List (Int × Int)) : Prop :=
  l.length ≤ 9223372036854775807 ∧ (0 < l.length → ∃ b off, A = some ⟨b, off, none⟩ ∧ b < B ∧ ∀ i, i < l.length →
    w.cell? ⟨b, off + i * 2, none⟩ = some (.int .i64 (l.getD i (0, 0)).1) ∧ w.cell? ⟨b, off + i * 2 + 1, none⟩ = some (.int .i64 (l.getD i (0, 0)).2))
section
variable {w w' : World} {B B' : Nat} {A : Option Addr} {l : List (Int × Int)}
theorem RdW.at_ (h : RdW w B A l) {k : Nat} (hk : k < l.length) : ∃ b off, A = some ⟨b, off, none⟩ ∧ b < B ∧ w.cell? ⟨b, off + k * 2, none⟩ = some (.int .i64 (l.getD k (0, 0)).1) ∧ w.cell? ⟨b, off + k * 2 + 1, none⟩ = some (.int .i64 (l.getD k (0, 0)).2) := by
  obtain ⟨b, off, e, hb, hc⟩ := h.2 (by omega)
  exact ⟨b, off, e, hb, hc k hk⟩
theorem RdW.keep (h : RdW w B A l) (hk : ∀ p : Addr, p.block < B → w'.cell? p = w.cell? p) : RdW w' B A l :=
  ⟨h.1, fun hn => by
    obtain ⟨b, off, e, hb, hc⟩ := h.2 hn
    exact ⟨b, off, e, hb, fun i hi => ⟨(hk _ hb).trans (hc i hi).1, (hk _ hb).trans (hc i hi).2⟩⟩⟩
theorem RdW.below (h : RdW w B A l) (hb : Below B w w') : RdW w' B A l := h.keep fun _ hp => hb.cell hp
theorem RdW.more (h : RdW w B A l) (hB : B ≤ B') : RdW w B' A l :=
  ⟨h.1, fun hn => by
    obtain ⟨b, off, e, hb, hc⟩ := h.2 hn
    exact ⟨b, off, e, by omega, hc⟩⟩
end

def mayB (p : Int × Int) : Bool := decide (p.1 < p.2) && decide (-2251799813685248 ≤ p.1) && decide (p.2 ≤ 2251799813685248)
theorem may_any (a b : Int) (c : Bool) (hc : mayB (a, b) = c) (w : World) :
    Calls Try.prog 30 #[.agg #[.int .i64 a, .int .i64 b]] w fun e w' => e = .returned (.bool c) ∧ Below w.heap.size w w' := by
  subst hc
  unfold mayB
  go_enter Try.func30, Try.ntmps30
  go_wp2
  all_goals
    go_ret
    refine ⟨ret_bool ?_, (Below.refl _ _).alloc (Nat.le_refl _) _⟩
    rw [Bool.eq_iff_iff]
    simp [*]
    try omega

/-- Do windows stand apart, from place k on? -/
def apartFrom (l : List (Int × Int)) (k : Nat) : Bool := (List.range' k (l.length - k)).all fun i => mayB (l.getD i (0, 0)) && (decide (i = 0) || decide ((l.getD (i - 1) (0, 0)).2 < (l.getD i (0, 0)).1))

theorem apartFrom_end (l : List (Int × Int)) : apartFrom l l.length = true := by simp [apartFrom]
theorem apartFrom_step (l : List (Int × Int)) (k : Nat) (hk : k < l.length) : apartFrom l k = (mayB (l.getD k (0, 0)) && (decide (k = 0) || decide ((l.getD (k - 1) (0, 0)).2 < (l.getD k (0, 0)).1)) && apartFrom l (k + 1)) := by
  unfold apartFrom
  rw [show l.length - k = (l.length - (k + 1)) + 1 by omega, List.range'_succ, List.all_cons]
theorem apartFrom_nil (k : Nat) : apartFrom [] k = true := by simp [apartFrom]

theorem RdW.cases {w : World} {B : Nat} {A : Option Addr} {l : List (Int × Int)} (h : RdW w B A l) : l = [] ∨ ∃ b off, A = some ⟨b, off, none⟩ ∧ b < B ∧ 0 < l.length ∧ ∀ i, i < l.length →
    w.cell? ⟨b, off + i * 2, none⟩ = some (.int .i64 (l.getD i (0, 0)).1) ∧ w.cell? ⟨b, off + i * 2 + 1, none⟩ = some (.int .i64 (l.getD i (0, 0)).2) := by
  rcases Nat.eq_zero_or_pos l.length with h0 | h0
  · exact .inl (List.eq_nil_of_length_eq_zero h0)
  · obtain ⟨b, off, e, hb, hc⟩ := h.2 h0
    exact .inr ⟨b, off, e, hb, h0, hc⟩

theorem apart_nil (A : Option Addr) (c : Nat) (w : World) :
    Calls Try.prog 20 #[.slice A 0 c] w fun e w' => e = .returned (.bool true) ∧ Below w.heap.size w w' := by
  go_enter Try.func20, Try.ntmps20
  go_wp2
  refine wp_loop_rounds 1 ?_
  rw [rounds_succ]
  go_wp2
  go_ret
  exact ⟨rfl, Below.refl _ _⟩

set_option maxHeartbeats 1000000 in
theorem apart_any (A : Option Addr) (c : Nat) (l : List (Int × Int)) (w : World) (hr : RdW w w.heap.size A l) (hc : l.length ≤ c) (r : Bool) (hr0 : apartFrom l 0 = r) :
    Calls Try.prog 20 #[.slice A l.length c] w fun e w' => e = .returned (.bool r) ∧ Below w.heap.size w w' := by
  rcases hr.cases with rfl | ⟨b, off, rfl, hb, hpos, hcell⟩
  · rw [← hr0, apartFrom_nil]
    exact apart_nil A c w
  have HR0 := Lib.hid hr0
  have HC := Lib.hid hcell
  have hml := hr.1
  clear hr0 hcell hr
  go_enter Try.func20, Try.ntmps20
  go_wp2
  go_loopw [7] (fun i wr => ∃ k : Nat, k ≤ l.length ∧ i = .int .i64 k ∧ apartFrom l k = r ∧ Below w.heap.size w wr) (fun i _ => l.length - (intOf i).toNat)
  case atStart => exact ⟨0, Nat.zero_le _, rfl, HR0.out, Below.refl _ _⟩
  case round =>
    obtain ⟨k, hk, rfl, hap, hbl⟩ := hrel
    by_cases hlt : k < l.length
    · have hst := apartFrom_step l k hlt
      rw [hap] at hst
      have hsz := hbl.size
      have hbw : b < wr.heap.size := by omega
      have c1 := (hbl.cell (p := ⟨b, off + k * 2, none⟩) hb).trans (HC.out k hlt).1
      have c2 := (hbl.cell (p := ⟨b, off + k * 2 + 1, none⟩) hb).trans (HC.out k hlt).2
      generalize hx : l.getD k (0, 0) = x at *
      obtain ⟨x1, x2⟩ := x
      generalize hm : mayB (x1, x2) = m at *
      have HX := Lib.hid hx
      have HM := Lib.hid hm
      have HST := Lib.hid hst
      have HAP := Lib.hid hap
      clear hx hm hst hap
      cases m
      · simp only [Bool.false_and] at HST
        go_wp2
        have e1 := ext_cell (w := wr.alloc (Obj.cells #[Value.int IntKind.i64 x1, Value.int IntKind.i64 x2] 33)) (p := ⟨wr.heap.size, 0, none⟩) (v := .int .i64 x1) (by go_simp)
        have e2 := ext_cell (w := wr.alloc (Obj.cells #[Value.int IntKind.i64 x1, Value.int IntKind.i64 x2] 33)) (p := ⟨wr.heap.size, 1, none⟩) (v := .int .i64 x2) (by go_simp)
        refine wp_region_ext (by kernel_rfl) (by kernel_rfl) ?_
        repeat (go_big_quiet_step ((go_at_call 30; exact ext_calls (may_any _ _ _ HM.out _))))
        refine wpQuiet_nil ?_
        rintro _ ⟨⟨w2, hb2⟩, rfl⟩
        clear e1 e2
        go_wp2
        go_ret
        exact ⟨ret_bool HST.out.symm, bl_then (bl_alloc hbl _) hb2⟩
      · simp only [Bool.true_and] at HST
        have hbx : ∀ w2, Below (wr.alloc (Obj.cells #[Value.int IntKind.i64 x1, Value.int IntKind.i64 x2] 33)).heap.size (wr.alloc (Obj.cells #[Value.int IntKind.i64 x1, Value.int IntKind.i64 x2] 33)) w2 → Below w.heap.size w w2 := fun w2 hb2 => bl_then (bl_alloc hbl _) hb2
        by_cases hk0 : k = 0
        · subst hk0
          simp only [decide_true, Bool.true_or, Bool.true_and] at HST
          simp only [Nat.zero_mul, Nat.add_zero] at c1 c2
          go_wp2
          have e1 := ext_cell (w := wr.alloc (Obj.cells #[Value.int IntKind.i64 x1, Value.int IntKind.i64 x2] 33)) (p := ⟨wr.heap.size, 0, none⟩) (v := .int .i64 x1) (by go_simp)
          have e2 := ext_cell (w := wr.alloc (Obj.cells #[Value.int IntKind.i64 x1, Value.int IntKind.i64 x2] 33)) (p := ⟨wr.heap.size, 1, none⟩) (v := .int .i64 x2) (by go_simp)
          refine wp_region_ext (by kernel_rfl) (by kernel_rfl) ?_
          repeat (go_big_quiet_step ((go_at_call 30; exact ext_calls (may_any _ _ _ HM.out _))))
          refine wpQuiet_nil ?_
          rintro _ ⟨⟨w2, hb2⟩, rfl⟩
          clear e1 e2
          go_wp2
          go_roundw
          case rel => exact ⟨1, hlt, rfl, HST.out.symm, hbx _ hb2⟩
          case measure => simp [intOf]; omega
        · have hk1 : 0 < (k : Int) := by omega
          have c3 := (hbl.cell (p := ⟨b, off + (k - 1) * 2 + 1, none⟩) hb).trans (HC.out (k - 1) (by omega)).2
          generalize hy : (l.getD (k - 1) (0, 0)).2 = y at *
          clear hy
          have hkd : decide (0 < k) = true := by simp; omega
          have g0 : 0 ≤ (k : Int) - 1 := by omega
          have g1 : (k : Int) - 1 < (l.length : Int) := by omega
          rw [decide_eq_false hk0, Bool.false_or] at HST
          by_cases hlt2 : y < x1
          · rw [decide_eq_true hlt2, Bool.true_and] at HST
            go_wp2
            have e1 := ext_cell (w := wr.alloc (Obj.cells #[Value.int IntKind.i64 x1, Value.int IntKind.i64 x2] 33)) (p := ⟨wr.heap.size, 0, none⟩) (v := .int .i64 x1) (by go_simp)
            have e2 := ext_cell (w := wr.alloc (Obj.cells #[Value.int IntKind.i64 x1, Value.int IntKind.i64 x2] 33)) (p := ⟨wr.heap.size, 1, none⟩) (v := .int .i64 x2) (by go_simp)
            have e3 := ext_cell (w := wr.alloc (Obj.cells #[Value.int IntKind.i64 x1, Value.int IntKind.i64 x2] 33)) (p := ⟨b, off + (k - 1) * 2 + 1, none⟩) (v := .int .i64 y) (by go_simp)
            refine wp_region_ext (by kernel_rfl) (by kernel_rfl) ?_
            repeat (go_big_quiet_step ((go_at_call 30; exact ext_calls (may_any _ _ _ HM.out _))))
            refine wpQuiet_nil ?_
            rintro _ ⟨⟨w2, hb2⟩, rfl⟩
            clear e1 e2 e3
            go_wp2
            go_roundw
            case rel => exact ⟨k + 1, hlt, by go_num, HST.out.symm, hbx _ hb2⟩
            case measure => simp [intOf]; omega
          · rw [decide_eq_false hlt2, Bool.false_and] at HST
            have hlt3 : x1 ≤ y := by omega
            clear hlt2
            go_wp2
            have e1 := ext_cell (w := wr.alloc (Obj.cells #[Value.int IntKind.i64 x1, Value.int IntKind.i64 x2] 33)) (p := ⟨wr.heap.size, 0, none⟩) (v := .int .i64 x1) (by go_simp)
            have e2 := ext_cell (w := wr.alloc (Obj.cells #[Value.int IntKind.i64 x1, Value.int IntKind.i64 x2] 33)) (p := ⟨wr.heap.size, 1, none⟩) (v := .int .i64 x2) (by go_simp)
            have e3 := ext_cell (w := wr.alloc (Obj.cells #[Value.int IntKind.i64 x1, Value.int IntKind.i64 x2] 33)) (p := ⟨b, off + (k - 1) * 2 + 1, none⟩) (v := .int .i64 y) (by go_simp)
            refine wp_region_ext (by kernel_rfl) (by kernel_rfl) ?_
            repeat (go_big_quiet_step ((go_at_call 30; exact ext_calls (may_any _ _ _ HM.out _))))
            refine wpQuiet_nil ?_
            rintro _ ⟨⟨w2, hb2⟩, rfl⟩
            clear e1 e2 e3
            go_wp2
            go_ret
            exact ⟨ret_bool HST.out.symm, hbx _ hb2⟩
    · have hkl : k = l.length := by omega
      have hr1 : r = true := by rw [← hap, hkl]; exact apartFrom_end l
      have HR1 := Lib.hid hr1
      clear hr1 hkl hap
      go_wp2
      go_ret
      exact ⟨ret_bool HR1.out.symm, hbl⟩
end Go.Proofs.Ytgpmceimhfkncaa
