/- The reference's place and Due. Conditions: as each theorem states them. -/
import Derived.Test.YtlmnnbmihimedaaT6
import Derived.Test.YtlmnnbmihimedaaF0
namespace Go.Proofs.Ytlmnnbmihimedaa
open Go.RowKit Go.Maps
set_option linter.unusedVariables false
set_option linter.unusedSimpArgs false

/-- How many stand ahead of a timer, in a list in order. -/
def IsPlace (l : List Tm) (x : Tm) (n : Nat) : Prop := n ≤ l.length ∧ (∀ i, i < n → ltT (l.getD i zeroT) x) ∧ (n < l.length → ¬ ltT (l.getD n zeroT) x)
set_option maxRecDepth 100000 in
set_option maxHeartbeats 4000000 in
theorem place_any (A : Option Addr) (n c : Nat) (l : List Tm) (x : Tm) (w : World) (hl : l.length = n) (hn : n ≤ 1000000) (hA : RdT w w.heap.size A l) :
    Calls Try.prog 36 #[.slice A n c, tmV x] w fun e w' => ∃ (k : Nat) (b : Bool), e = .returned (.tuple #[.int .i64 k, .bool b]) ∧ IsPlace l x k ∧ (b = true ↔ k < l.length ∧ l.getD k zeroT = x) ∧ Below w.heap.size w w' := by
  have HA := Lib.hid hA
  have HLN := Lib.hid hl
  clear hA hl
  obtain ⟨xt, xk, xs⟩ := x
  unfold tmV
  dsimp only
  go_enter Try.func36, Try.ntmps36
  go_wp2_with (fail)
  have hbA : Below w.heap.size w (w.alloc (Obj.cells #[.int .i64 xt, .string xk, .string xs] 23)) := bl_alloc (Below.refl _ _) _
  have x0 : (w.alloc (Obj.cells #[.int .i64 xt, .string xk, .string xs] 23)).cell? ⟨w.heap.size, 0, none⟩ = some (.int .i64 xt) := by go_keep
  have x1 : (w.alloc (Obj.cells #[.int .i64 xt, .string xk, .string xs] 23)).cell? ⟨w.heap.size, 1, none⟩ = some (.string xk) := by go_keep
  have x2 : (w.alloc (Obj.cells #[.int .i64 xt, .string xk, .string xs] 23)).cell? ⟨w.heap.size, 2, none⟩ = some (.string xs) := by go_keep
  have hl0 : w.heap.size < (w.alloc (Obj.cells #[.int .i64 xt, .string xk, .string xs] 23)).heap.size := by simp
  generalize (w.alloc (Obj.cells #[.int .i64 xt, .string xk, .string xs] 23)) = w0 at *
  have HBA := Lib.hid hbA
  have HA0 := Lib.hid (HA.out.below hbA)
  have hsA := hbA.size
  clear hbA
  have H14 : Hid (∀ (t1 : Int) (k1 s1 : ByteArray) w, Calls Try.prog 14 #[.agg #[.int .i64 t1, .string k1, .string s1], .agg #[.int .i64 xt, .string xk, .string xs]] w fun e w' => e = .returned (.int .i64 (cmpT ⟨t1, k1, s1⟩ ⟨xt, xk, xs⟩)) ∧ Below w.heap.size w w') := Lib.hid fun t1 k1 s1 w => refcmp_any ⟨t1, k1, s1⟩ ⟨xt, xk, xs⟩ w
  go_loopw [6] (fun vi wr => ∃ i : Nat, i ≤ n ∧ vi = .int .i64 i ∧ (∀ j, j < i → ltT (l.getD j zeroT) ⟨xt, xk, xs⟩) ∧ Below w0.heap.size w0 wr) (fun i _ => n - (intOf i).toNat)
  case atStart => exact ⟨0, Nat.zero_le _, rfl, fun j hj => by omega, Below.refl _ _⟩
  case round =>
    obtain ⟨i, hin, rfl, hlt, hbl⟩ := hrel
    have HBL := Lib.hid hbl
    have HLT := Lib.hid hlt
    have hws := hbl.size
    have x0 := (hbl.cell (p := ⟨w.heap.size, 0, none⟩) hl0).trans x0
    have x1 := (hbl.cell (p := ⟨w.heap.size, 1, none⟩) hl0).trans x1
    have x2 := (hbl.cell (p := ⟨w.heap.size, 2, none⟩) hl0).trans x2
    have hlx : w.heap.size < wr.heap.size := by omega
    have e0 := ext_cell x0
    have e1 := ext_cell x1
    have e2 := ext_cell x2
    clear hlt
    by_cases hi : i < n
    · have hi0 : (0 : Int) ≤ (i : Int) := by omega
      have hi1 : (i : Int) < (n : Int) := by omega
      obtain ⟨b, off, rfl, hb, _, hc⟩ := HA0.out (by rw [HLN.out]; omega)
      obtain ⟨a0, a1, a2⟩ := hc i (by rw [HLN.out]; exact hi)
      obtain ⟨y, hy⟩ : ∃ y, l.getD i zeroT = y := ⟨_, rfl⟩
      rw [hy] at a0 a1 a2
      have HY := Lib.hid hy
      have hbw0 : b < w0.heap.size := by omega
      have a0 := (hbl.cell (p := ⟨b, off + i * 3, none⟩) hbw0).trans a0
      have a1 := (hbl.cell (p := ⟨b, off + i * 3 + 1, none⟩) hbw0).trans a1
      have a2 := (hbl.cell (p := ⟨b, off + i * 3 + 2, none⟩) hbw0).trans a2
      have hlb : b < wr.heap.size := by omega
      have f0 := ext_cell a0
      have f1 := ext_cell a1
      have f2 := ext_cell a2
      clear hc hbl hy
      by_cases hlo : ltT y ⟨xt, xk, xs⟩
      · have HCD : Hid (cmpT ⟨y.t, y.k, y.s⟩ ⟨xt, xk, xs⟩ = -1) := Lib.hid (cmpT_less hlo)
        have HLO := Lib.hid hlo
        have HC : Hid (∀ w, Calls Try.prog 14 #[.agg #[.int .i64 y.t, .string y.k, .string y.s], .agg #[.int .i64 xt, .string xk, .string xs]] w fun e w' => e = .returned (.int .i64 (-1)) ∧ Below w.heap.size w w') := Lib.hid fun w => HCD.out ▸ H14.out y.t y.k y.s w
        clear hlo
        go_wp2_with (fail)
        refine wp_region_ext (by kernel_rfl) (by kernel_rfl) ?_
        repeat (go_big_quiet_step ((go_at_call 14; exact ext_calls (HC.out _))))
        refine wpQuiet_nil ?_
        rintro w9 ⟨⟨_, hb9⟩, rfl⟩
        have HB9 := Lib.hid (bl_then HBL.out hb9)
        clear hb9 e0 e1 e2 f0 f1 f2
        go_wp2_with (fail)
        go_roundw
        case rel => exact ⟨i + 1, by omega, by first | rfl | (push_cast; rfl) | go_num, fun j hj => by
            by_cases hji : j = i
            · subst hji
              rw [HY.out]
              exact HLO.out
            · exact HLT.out j (by omega), HB9.out⟩
        case measure => simp [intOf]; omega
      · have HLO := Lib.hid hlo
        obtain ⟨r, hr⟩ : ∃ r, cmpT ⟨y.t, y.k, y.s⟩ ⟨xt, xk, xs⟩ = r := ⟨_, rfl⟩
        have hr0 : ¬ r < 0 := fun h => hlo (cmpT_lt.1 (by rw [← hr] at h; exact h))
        have HC : Hid (∀ w, Calls Try.prog 14 #[.agg #[.int .i64 y.t, .string y.k, .string y.s], .agg #[.int .i64 xt, .string xk, .string xs]] w fun e w' => e = .returned (.int .i64 r) ∧ Below w.heap.size w w') := Lib.hid fun w => hr ▸ H14.out y.t y.k y.s w
        have HRD : Hid (decide (r < 0) = false) := Lib.hid (decide_eq_false hr0)
        clear hlo hr hr0
        go_wp2_with (fail)
        refine wp_region_ext (by kernel_rfl) (by kernel_rfl) ?_
        repeat (first | rw [HRD.out] | go_big_quiet_step ((go_at_call 14; exact ext_calls (HC.out _))))
        refine wpQuiet_nil ?_
        rintro w9 ⟨⟨_, hb9⟩, rfl⟩
        have hb9' := bl_then HBL.out hb9
        have HB9 := Lib.hid hb9'
        have hs9 := hb9.size
        have x0 := (hb9.cell (p := ⟨w.heap.size, 0, none⟩) hlx).trans x0
        have x1 := (hb9.cell (p := ⟨w.heap.size, 1, none⟩) hlx).trans x1
        have x2 := (hb9.cell (p := ⟨w.heap.size, 2, none⟩) hlx).trans x2
        have a0 := (hb9.cell (p := ⟨b, off + i * 3, none⟩) hlb).trans a0
        have a1 := (hb9.cell (p := ⟨b, off + i * 3 + 1, none⟩) hlb).trans a1
        have a2 := (hb9.cell (p := ⟨b, off + i * 3 + 2, none⟩) hlb).trans a2
        have hlx9 : w.heap.size < w9.heap.size := by omega
        have hlb9 : b < w9.heap.size := by omega
        have HPL : Hid (IsPlace l ⟨xt, xk, xs⟩ i) := Lib.hid ⟨by rw [HLN.out]; omega, HLT.out, fun _ => by rw [HY.out]; exact HLO.out⟩
        clear hb9 hb9' e0 e1 e2 f0 f1 f2
        go_wp2_with (fail)
        obtain ⟨yt, yk, ys⟩ := y
        dsimp only at *
        by_cases hyx : (⟨yt, yk, ys⟩ : Tm) = ⟨xt, xk, xs⟩
        · obtain ⟨rfl, rfl, rfl⟩ : yt = xt ∧ yk = xk ∧ ys = xs := by simpa using hyx
          clear hyx
          have g0 := ext_cell x0
          have g1 := ext_cell x1
          have g2 := ext_cell x2
          have k0 := ext_cell a0
          have k1 := ext_cell a1
          have k2 := ext_cell a2
          refine wp_region_ext (by kernel_rfl) (by kernel_rfl) ?_
          repeat (go_big_quiet_step (fail))
          refine wpQuiet_nil ?_
          rintro w10 ⟨⟨_, hb10⟩, rfl⟩
          go_wp2_with (fail)
          refine bodyPost_ret (v := .tuple #[.int .i64 (i : Int), .bool true]) (by simp only [results, Try.results36]; go_simp) rfl ?_
          exact ⟨i, true, rfl, HPL.out, (iff_of_true rfl ⟨by rw [HLN.out]; omega, HY.out⟩), bl_then (bl_then HBA.out HB9.out) hb10⟩
        · have HNE : Hid (¬ (false = true)) := Lib.hid (by decide)
          have HYX := Lib.hid hyx
          rcases tm_parts hyx with hne | ⟨rfl, hne⟩ | ⟨rfl, rfl, hne⟩
          · clear hyx
            have g0 := ext_cell x0
            have g1 := ext_cell x1
            have g2 := ext_cell x2
            have k0 := ext_cell a0
            have k1 := ext_cell a1
            have k2 := ext_cell a2
            refine wp_region_ext (by kernel_rfl) (by kernel_rfl) ?_
            repeat (go_big_quiet_step (fail))
            refine wpQuiet_nil ?_
            rintro w10 ⟨⟨_, hb10⟩, rfl⟩
            go_wp2_with (fail)
            refine bodyPost_ret (v := .tuple #[.int .i64 (i : Int), .bool false]) (by simp only [results, Try.results36]; go_simp) rfl ?_
            exact ⟨i, false, rfl, HPL.out, (iff_of_false (by decide) (fun h => HYX.out (HY.out ▸ h.2))), bl_then (bl_then HBA.out HB9.out) hb10⟩
          · clear hyx
            have g0 := ext_cell x0
            have g1 := ext_cell x1
            have g2 := ext_cell x2
            have k0 := ext_cell a0
            have k1 := ext_cell a1
            have k2 := ext_cell a2
            refine wp_region_ext (by kernel_rfl) (by kernel_rfl) ?_
            repeat (go_big_quiet_step (fail))
            refine wpQuiet_nil ?_
            rintro w10 ⟨⟨_, hb10⟩, rfl⟩
            go_wp2_with (fail)
            refine bodyPost_ret (v := .tuple #[.int .i64 (i : Int), .bool false]) (by simp only [results, Try.results36]; go_simp) rfl ?_
            exact ⟨i, false, rfl, HPL.out, (iff_of_false (by decide) (fun h => HYX.out (HY.out ▸ h.2))), bl_then (bl_then HBA.out HB9.out) hb10⟩
          · clear hyx
            have g0 := ext_cell x0
            have g1 := ext_cell x1
            have g2 := ext_cell x2
            have k0 := ext_cell a0
            have k1 := ext_cell a1
            have k2 := ext_cell a2
            refine wp_region_ext (by kernel_rfl) (by kernel_rfl) ?_
            repeat (go_big_quiet_step (fail))
            refine wpQuiet_nil ?_
            rintro w10 ⟨⟨_, hb10⟩, rfl⟩
            go_wp2_with (fail)
            refine bodyPost_ret (v := .tuple #[.int .i64 (i : Int), .bool false]) (by simp only [results, Try.results36]; go_simp) rfl ?_
            exact ⟨i, false, rfl, HPL.out, (iff_of_false (by decide) (fun h => HYX.out (HY.out ▸ h.2))), bl_then (bl_then HBA.out HB9.out) hb10⟩
    · have hine : i = n := by omega
      subst hine
      have hirr : ¬ (i : Int) < (i : Int) := by omega
      have HPL : Hid (IsPlace l ⟨xt, xk, xs⟩ i) := Lib.hid ⟨by rw [HLN.out]; omega, HLT.out, fun h => by rw [HLN.out] at h; omega⟩
      clear hbl
      go_wp2_with (fail)
      refine wp_region_ext (by kernel_rfl) (by kernel_rfl) ?_
      repeat (go_big_quiet_step (fail))
      refine wpQuiet_nil ?_
      rintro w9 ⟨⟨_, hb9⟩, rfl⟩
      have HB9 := Lib.hid (bl_then HBL.out hb9)
      clear hb9 e0 e1 e2
      go_wp2_with (fail)
      refine wp_region_ext (by kernel_rfl) (by kernel_rfl) ?_
      repeat (go_big_quiet_step (fail))
      refine wpQuiet_nil ?_
      rintro w10 ⟨⟨_, hb10⟩, rfl⟩
      go_wp2_with (fail)
      refine bodyPost_ret (v := .tuple #[.int .i64 (i : Int), .bool false]) (by simp only [results, Try.results36]; go_simp) rfl ?_
      exact ⟨i, false, rfl, HPL.out, (iff_of_false (by decide) (fun h => by have := h.1; rw [HLN.out] at this; omega)), bl_then (bl_then HBA.out HB9.out) hb10⟩
end Go.Proofs.Ytlmnnbmihimedaa
