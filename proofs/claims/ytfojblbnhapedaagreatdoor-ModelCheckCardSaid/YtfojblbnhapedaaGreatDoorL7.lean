/- The reference's check of an event. Conditions: as each theorem states them. -/
import Derived.Test.YtfojblbnhapedaaGreatDoorL6
namespace Go.Proofs.YtfojblbnhapedaaGreatDoor
open Go.RowKit Go.Maps
set_option linter.unusedVariables false
set_option linter.unusedSimpArgs false

theorem size_empty (s : ByteArray) : s = ByteArray.empty ↔ s.size = 0 := by
  constructor
  · rintro rfl; rfl
  · intro h
    obtain ⟨⟨l⟩⟩ := s
    cases l with
    | nil => rfl
    | cons a l => cases h
set_option maxRecDepth 100000 in
set_option maxHeartbeats 8000000 in
theorem rchk_all (j : Jb) (e : Ev) (w : World) (hA : RdP w j.A j.ops) (hc : j.ops.length ≤ j.c) (hcb : j.c ≤ 9223372036854775807) (hkz : okN e.key) : Calls Tryz.prog 17 #[jbV j, evV e] w fun r w' => r = .returned (.int .i64 (if evP j e then 0 else 2)) ∧ Below w.heap.size w w' := by
  have hb := bl_alloc (bl_alloc (Below.refl w.heap.size w) (Obj.cells #[.int .i64 j.groups, .int .i64 j.sources, .int .i64 j.bound, .int .i64 j.late, .slice j.A j.ops.length j.c] 24)) (Obj.cells #[.int .i64 e.k, .int .i64 e.src, .int .i64 e.t, .string e.key, .int .i64 e.v] 26)
  have HB := Lib.hid hb
  have HC := Lib.hid (rjob_any j _ (hA.below hb) hc hcb)
  obtain ⟨R, hR⟩ : ∃ R : Int, (if evP j e then (0 : Int) else 2) = R := ⟨_, rfl⟩
  rw [hR]
  have hn0 := heap_alloc_new w (Obj.cells #[.int .i64 j.groups, .int .i64 j.sources, .int .i64 j.bound, .int .i64 j.late, .slice j.A j.ops.length j.c] 24)
  have hn1 := heap_alloc_new (w.alloc (Obj.cells #[.int .i64 j.groups, .int .i64 j.sources, .int .i64 j.bound, .int .i64 j.late, .slice j.A j.ops.length j.c] 24)) (Obj.cells #[.int .i64 e.k, .int .i64 e.src, .int .i64 e.t, .string e.key, .int .i64 e.v] 26)
  have hs1 : (w.alloc (Obj.cells #[.int .i64 j.groups, .int .i64 j.sources, .int .i64 j.bound, .int .i64 j.late, .slice j.A j.ops.length j.c] 24)).heap.size = w.heap.size + 1 := by simp
  rw [hs1] at hn1
  have hn2 := ((Below.refl _ _).alloc (Nat.le_refl _) (Obj.cells #[.int .i64 e.k, .int .i64 e.src, .int .i64 e.t, .string e.key, .int .i64 e.v] 26)).block _ (by rw [hs1]; omega) |>.trans hn0
  have HN1 := Lib.hid hn1
  have HN2 := Lib.hid hn2
  have HZ := Lib.hid hkz
  by_cases hj : jobP j
  case neg =>
    rw [if_neg hj] at HC
    have HR : Hid (R = 2) := Lib.hid (by
      rw [← hR, if_neg]
      exact fun h => hj h.1)
    obtain ⟨gr, so, bo, la, l, A, c⟩ := j
    obtain ⟨k, src, t, key, v⟩ := e
    unfold jbV evV at *
    dsimp only at *
    clear hA hb hj hn0 hn1 hn2 hR hs1 hkz
    go_enter Tryz.func17, Tryz.ntmps17
    go_wp2_with (fail)
    refine HC.out.mono ?_
    rintro e w1 ⟨rfl, hb1⟩
    have HB1 := Lib.hid (bl_then HB.out hb1)
    clear hb1
    go_wp2_with (fail)
    go_ret
    rw [HR.out]
    exact ⟨rfl, HB1.out⟩
  rw [if_pos hj] at HC
  have HR : Hid (R = if 1 ≤ e.k ∧ e.k ≤ 3 ∧ 0 ≤ e.src ∧ e.src < j.sources ∧ -1125899906842624 ≤ e.t ∧ e.t ≤ 1125899906842624 ∧ (e.k = 1 → e.key.size ≤ 64) ∧ (1 < e.k → e.key.size = 0 ∧ e.v = 0) ∧ (e.k = 3 → e.t = 0) then 0 else 2) := Lib.hid (by
    rw [← hR]
    have e1 : evP j e ↔ (1 ≤ e.k ∧ e.k ≤ 3 ∧ 0 ≤ e.src ∧ e.src < j.sources ∧ -1125899906842624 ≤ e.t ∧ e.t ≤ 1125899906842624 ∧ (e.k = 1 → e.key.size ≤ 64) ∧ (1 < e.k → e.key.size = 0 ∧ e.v = 0) ∧ (e.k = 3 → e.t = 0)) := by
      unfold evP evB evK
      rw [size_empty]
      constructor
      · rintro ⟨_, h1, h2⟩; omega
      · intro h; exact ⟨hj, by omega, by omega⟩
    simp only [e1])
  obtain ⟨gr, so, bo, la, l, A, c⟩ := j
  obtain ⟨k, src, t, key, v⟩ := e
  unfold jbV evV at *
  dsimp only at *
  unfold okN at HZ
  obtain ⟨m, hm⟩ : ∃ m, key.size = m := ⟨_, rfl⟩
  rw [hm] at HR HZ
  have hmz := HZ.out
  clear hA hb hj hn0 hn1 hn2 hR hs1 hkz HZ
  go_enter Tryz.func17, Tryz.ntmps17
  go_wp2_with (fail)
  refine HC.out.mono ?_
  rintro e w1 ⟨rfl, hb1⟩
  have HB1 := Lib.hid (bl_then HB.out hb1)
  have hm1 := (hb1.block _ (by simp)).trans HN1.out
  have hm2 := (hb1.block _ (by simp; omega)).trans HN2.out
  have x0 := cell_of hm1 0
  have x1 := cell_of hm1 1
  have x2 := cell_of hm1 2
  have x3 := cell_of hm1 3
  have x4 := cell_of hm1 4
  have xl := (Array.getElem?_eq_some_iff.1 hm1).1
  have y1 := cell_of hm2 1
  have yl := (Array.getElem?_eq_some_iff.1 hm2).1
  simp only [List.getElem?_toArray, List.getElem?_cons_zero, List.getElem?_cons_succ] at x0 x1 x2 x3 x4 y1
  clear hb1 hm1 hm2 HN1 HN2 HC HB
  go_wp2_with (fail)
  all_goals (
    go_ret
    refine ⟨?_, HB1.out⟩
    first
    | (have e : R = 2 := by rw [HR.out, if_neg (by first | omega | (simp at *; omega))]
       rw [e]
       rfl)
    | (have e : R = 0 := by rw [HR.out, if_pos (by first | omega | (simp at *; omega))]
       rw [e]
       rfl))
end Go.Proofs.YtfojblbnhapedaaGreatDoor
