/- Contract of model.Check, the job being one that may be. Conditions: as each theorem states them. -/
import Derived.Test.YtfojblbnhapedaaGreatDoorP5
namespace Go.Proofs.YtfojblbnhapedaaGreatDoor
open Go.RowKit Go.Maps
set_option linter.unusedVariables false
set_option linter.unusedSimpArgs false

theorem empty_iff (s : ByteArray) : s = ByteArray.empty ↔ s.toList.isEmpty = true := by
  rw [ByteArray.toList_eq]
  constructor
  · rintro rfl; rfl
  · intro h
    obtain ⟨⟨l⟩⟩ := s
    cases l with
    | nil => rfl
    | cons a l => cases h
set_option maxRecDepth 100000 in
set_option maxHeartbeats 8000000 in
theorem check_mark_e (j : Jb) (e : Ev) (w : World) (hA : RdP w j.A j.ops) (hc : j.ops.length ≤ j.c) (hcb : j.c ≤ 9223372036854775807) (hj : jobP j) (hk : e.k = 2) (hke : e.key.toList.isEmpty = true) (hkz : okN e.key) : Calls Tryz.prog 16 #[jbV j, evV e] w fun r w' => r = .returned (.int .i64 (if evB j.sources e ∧ evK e then 0 else 2)) ∧ Below w.heap.size w w' := by
  have hb := bl_alloc (bl_alloc (Below.refl w.heap.size w) (Obj.cells #[.int .i64 j.groups, .int .i64 j.sources, .int .i64 j.bound, .int .i64 j.late, .slice j.A j.ops.length j.c] 24)) (Obj.cells #[.int .i64 e.k, .int .i64 e.src, .int .i64 e.t, .string e.key, .int .i64 e.v] 26)
  have HB := Lib.hid hb
  have HC := Lib.hid (jcheck_any j _ (hA.below hb) hc hcb)
  rw [if_pos hj] at HC
  obtain ⟨R, hR⟩ : ∃ R : Int, (if evB j.sources e ∧ evK e then (0 : Int) else 2) = R := ⟨_, rfl⟩
  rw [hR]
  have hem := (empty_iff e.key).2 hke
  have HR : Hid (R = if 0 ≤ e.src ∧ e.src < j.sources ∧ -1125899906842624 ≤ e.t ∧ e.t ≤ 1125899906842624 ∧ e.v = 0 then 0 else 2) := Lib.hid (by
    rw [← hR]
    have e : (evB j.sources e ∧ evK e) ↔ (0 ≤ e.src ∧ e.src < j.sources ∧ -1125899906842624 ≤ e.t ∧ e.t ≤ 1125899906842624 ∧ e.v = 0) := by
      unfold evB evK
      simp [hk, hem]
      omega
    simp only [e])
  clear hem
  have hn0 := heap_alloc_new w (Obj.cells #[.int .i64 j.groups, .int .i64 j.sources, .int .i64 j.bound, .int .i64 j.late, .slice j.A j.ops.length j.c] 24)
  have hn1 := heap_alloc_new (w.alloc (Obj.cells #[.int .i64 j.groups, .int .i64 j.sources, .int .i64 j.bound, .int .i64 j.late, .slice j.A j.ops.length j.c] 24)) (Obj.cells #[.int .i64 e.k, .int .i64 e.src, .int .i64 e.t, .string e.key, .int .i64 e.v] 26)
  have hs1 : (w.alloc (Obj.cells #[.int .i64 j.groups, .int .i64 j.sources, .int .i64 j.bound, .int .i64 j.late, .slice j.A j.ops.length j.c] 24)).heap.size = w.heap.size + 1 := by simp
  rw [hs1] at hn1
  have hn2 := ((Below.refl _ _).alloc (Nat.le_refl _) (Obj.cells #[.int .i64 e.k, .int .i64 e.src, .int .i64 e.t, .string e.key, .int .i64 e.v] 26)).block _ (by rw [hs1]; omega) |>.trans hn0
  have HN1 := Lib.hid hn1
  have HN2 := Lib.hid hn2
  obtain ⟨gr, so, bo, la, l, A, c⟩ := j
  obtain ⟨k, src, t, key, v⟩ := e
  unfold jbV evV at *
  dsimp only at *
  subst hk
  clear hA hb hj hn0 hn1 hn2 hR hs1
  go_enter Tryz.func16, Tryz.ntmps16
  go_wp2_with (fail)
  refine HC.out.mono ?_
  rintro e w1 ⟨rfl, hb1⟩
  have HB1 := Lib.hid (bl_then HB.out hb1)
  have hm1 := (hb1.block _ (by simp)).trans HN1.out
  have hm2 := (hb1.block _ (by simp; omega)).trans HN2.out
  have x0 := cell_of hm1 0
  have x1 := cell_of hm1 1
  have x2 := cell_of hm1 2
  have x3 := cell_of hm1 3
  have x4 := cell_of hm1 4
  have xl := (Array.getElem?_eq_some_iff.1 hm1).1
  have y1 := cell_of hm2 1
  have yl := (Array.getElem?_eq_some_iff.1 hm2).1
  simp only [List.getElem?_toArray, List.getElem?_cons_zero, List.getElem?_cons_succ] at x0 x1 x2 x3 x4 y1
  clear hb1 hm1 hm2 HN1 HN2 HC HB
  go_wp2_with (fail)
  all_goals (
    go_ret
    refine ⟨?_, HB1.out⟩
    first
    | (have e : R = 2 := by rw [HR.out, if_neg (by simp at *; omega)]
       rw [e]
       rfl)
    | (have e : R = 0 := by rw [HR.out, if_pos (by simp at *; omega)]
       rw [e]
       rfl))
set_option maxRecDepth 100000 in
set_option maxHeartbeats 8000000 in
theorem check_mark_n (j : Jb) (e : Ev) (w : World) (hA : RdP w j.A j.ops) (hc : j.ops.length ≤ j.c) (hcb : j.c ≤ 9223372036854775807) (hj : jobP j) (hk : e.k = 2) (hke : e.key.toList.isEmpty = false) (hkz : okN e.key) : Calls Tryz.prog 16 #[jbV j, evV e] w fun r w' => r = .returned (.int .i64 (if evB j.sources e ∧ evK e then 0 else 2)) ∧ Below w.heap.size w w' := by
  have hb := bl_alloc (bl_alloc (Below.refl w.heap.size w) (Obj.cells #[.int .i64 j.groups, .int .i64 j.sources, .int .i64 j.bound, .int .i64 j.late, .slice j.A j.ops.length j.c] 24)) (Obj.cells #[.int .i64 e.k, .int .i64 e.src, .int .i64 e.t, .string e.key, .int .i64 e.v] 26)
  have HB := Lib.hid hb
  have HC := Lib.hid (jcheck_any j _ (hA.below hb) hc hcb)
  rw [if_pos hj] at HC
  obtain ⟨R, hR⟩ : ∃ R : Int, (if evB j.sources e ∧ evK e then (0 : Int) else 2) = R := ⟨_, rfl⟩
  rw [hR]
  have hem : ¬ e.key = ByteArray.empty := fun h => by rw [(empty_iff e.key).1 h] at hke; cases hke
  have HR : Hid (R = 2) := Lib.hid (by
    rw [← hR, if_neg]
    unfold evK
    rintro ⟨_, h⟩
    simp [hk, hem] at h)
  clear hem
  have hn0 := heap_alloc_new w (Obj.cells #[.int .i64 j.groups, .int .i64 j.sources, .int .i64 j.bound, .int .i64 j.late, .slice j.A j.ops.length j.c] 24)
  have hn1 := heap_alloc_new (w.alloc (Obj.cells #[.int .i64 j.groups, .int .i64 j.sources, .int .i64 j.bound, .int .i64 j.late, .slice j.A j.ops.length j.c] 24)) (Obj.cells #[.int .i64 e.k, .int .i64 e.src, .int .i64 e.t, .string e.key, .int .i64 e.v] 26)
  have hs1 : (w.alloc (Obj.cells #[.int .i64 j.groups, .int .i64 j.sources, .int .i64 j.bound, .int .i64 j.late, .slice j.A j.ops.length j.c] 24)).heap.size = w.heap.size + 1 := by simp
  rw [hs1] at hn1
  have hn2 := ((Below.refl _ _).alloc (Nat.le_refl _) (Obj.cells #[.int .i64 e.k, .int .i64 e.src, .int .i64 e.t, .string e.key, .int .i64 e.v] 26)).block _ (by rw [hs1]; omega) |>.trans hn0
  have HN1 := Lib.hid hn1
  have HN2 := Lib.hid hn2
  obtain ⟨gr, so, bo, la, l, A, c⟩ := j
  obtain ⟨k, src, t, key, v⟩ := e
  unfold jbV evV at *
  dsimp only at *
  subst hk
  clear hA hb hj hn0 hn1 hn2 hR hs1
  go_enter Tryz.func16, Tryz.ntmps16
  go_wp2_with (fail)
  refine HC.out.mono ?_
  rintro e w1 ⟨rfl, hb1⟩
  have HB1 := Lib.hid (bl_then HB.out hb1)
  have hm1 := (hb1.block _ (by simp)).trans HN1.out
  have hm2 := (hb1.block _ (by simp; omega)).trans HN2.out
  have x0 := cell_of hm1 0
  have x1 := cell_of hm1 1
  have x2 := cell_of hm1 2
  have x3 := cell_of hm1 3
  have x4 := cell_of hm1 4
  have xl := (Array.getElem?_eq_some_iff.1 hm1).1
  have y1 := cell_of hm2 1
  have yl := (Array.getElem?_eq_some_iff.1 hm2).1
  simp only [List.getElem?_toArray, List.getElem?_cons_zero, List.getElem?_cons_succ] at x0 x1 x2 x3 x4 y1
  clear hb1 hm1 hm2 HN1 HN2 HC HB
  go_wp2_with (fail)
  all_goals (
    go_ret
    refine ⟨?_, HB1.out⟩
    rw [HR.out]
    rfl)
set_option maxRecDepth 100000 in
set_option maxHeartbeats 8000000 in
theorem check_idle_e (j : Jb) (e : Ev) (w : World) (hA : RdP w j.A j.ops) (hc : j.ops.length ≤ j.c) (hcb : j.c ≤ 9223372036854775807) (hj : jobP j) (hk : e.k = 3) (hke : e.key.toList.isEmpty = true) (hkz : okN e.key) : Calls Tryz.prog 16 #[jbV j, evV e] w fun r w' => r = .returned (.int .i64 (if evB j.sources e ∧ evK e then 0 else 2)) ∧ Below w.heap.size w w' := by
  have hb := bl_alloc (bl_alloc (Below.refl w.heap.size w) (Obj.cells #[.int .i64 j.groups, .int .i64 j.sources, .int .i64 j.bound, .int .i64 j.late, .slice j.A j.ops.length j.c] 24)) (Obj.cells #[.int .i64 e.k, .int .i64 e.src, .int .i64 e.t, .string e.key, .int .i64 e.v] 26)
  have HB := Lib.hid hb
  have HC := Lib.hid (jcheck_any j _ (hA.below hb) hc hcb)
  rw [if_pos hj] at HC
  obtain ⟨R, hR⟩ : ∃ R : Int, (if evB j.sources e ∧ evK e then (0 : Int) else 2) = R := ⟨_, rfl⟩
  rw [hR]
  have hem := (empty_iff e.key).2 hke
  have HR : Hid (R = if 0 ≤ e.src ∧ e.src < j.sources ∧ -1125899906842624 ≤ e.t ∧ e.t ≤ 1125899906842624 ∧ e.v = 0 ∧ e.t = 0 then 0 else 2) := Lib.hid (by
    rw [← hR]
    have e : (evB j.sources e ∧ evK e) ↔ (0 ≤ e.src ∧ e.src < j.sources ∧ -1125899906842624 ≤ e.t ∧ e.t ≤ 1125899906842624 ∧ e.v = 0 ∧ e.t = 0) := by
      unfold evB evK
      simp [hk, hem]
      omega
    simp only [e])
  clear hem
  have hn0 := heap_alloc_new w (Obj.cells #[.int .i64 j.groups, .int .i64 j.sources, .int .i64 j.bound, .int .i64 j.late, .slice j.A j.ops.length j.c] 24)
  have hn1 := heap_alloc_new (w.alloc (Obj.cells #[.int .i64 j.groups, .int .i64 j.sources, .int .i64 j.bound, .int .i64 j.late, .slice j.A j.ops.length j.c] 24)) (Obj.cells #[.int .i64 e.k, .int .i64 e.src, .int .i64 e.t, .string e.key, .int .i64 e.v] 26)
  have hs1 : (w.alloc (Obj.cells #[.int .i64 j.groups, .int .i64 j.sources, .int .i64 j.bound, .int .i64 j.late, .slice j.A j.ops.length j.c] 24)).heap.size = w.heap.size + 1 := by simp
  rw [hs1] at hn1
  have hn2 := ((Below.refl _ _).alloc (Nat.le_refl _) (Obj.cells #[.int .i64 e.k, .int .i64 e.src, .int .i64 e.t, .string e.key, .int .i64 e.v] 26)).block _ (by rw [hs1]; omega) |>.trans hn0
  have HN1 := Lib.hid hn1
  have HN2 := Lib.hid hn2
  obtain ⟨gr, so, bo, la, l, A, c⟩ := j
  obtain ⟨k, src, t, key, v⟩ := e
  unfold jbV evV at *
  dsimp only at *
  subst hk
  clear hA hb hj hn0 hn1 hn2 hR hs1
  go_enter Tryz.func16, Tryz.ntmps16
  go_wp2_with (fail)
  refine HC.out.mono ?_
  rintro e w1 ⟨rfl, hb1⟩
  have HB1 := Lib.hid (bl_then HB.out hb1)
  have hm1 := (hb1.block _ (by simp)).trans HN1.out
  have hm2 := (hb1.block _ (by simp; omega)).trans HN2.out
  have x0 := cell_of hm1 0
  have x1 := cell_of hm1 1
  have x2 := cell_of hm1 2
  have x3 := cell_of hm1 3
  have x4 := cell_of hm1 4
  have xl := (Array.getElem?_eq_some_iff.1 hm1).1
  have y1 := cell_of hm2 1
  have yl := (Array.getElem?_eq_some_iff.1 hm2).1
  simp only [List.getElem?_toArray, List.getElem?_cons_zero, List.getElem?_cons_succ] at x0 x1 x2 x3 x4 y1
  clear hb1 hm1 hm2 HN1 HN2 HC HB
  go_wp2_with (fail)
  all_goals (
    go_ret
    refine ⟨?_, HB1.out⟩
    first
    | (have e : R = 2 := by rw [HR.out, if_neg (by simp at *; omega)]
       rw [e]
       rfl)
    | (have e : R = 0 := by rw [HR.out, if_pos (by simp at *; omega)]
       rw [e]
       rfl))
set_option maxRecDepth 100000 in
set_option maxHeartbeats 8000000 in
theorem check_idle_n (j : Jb) (e : Ev) (w : World) (hA : RdP w j.A j.ops) (hc : j.ops.length ≤ j.c) (hcb : j.c ≤ 9223372036854775807) (hj : jobP j) (hk : e.k = 3) (hke : e.key.toList.isEmpty = false) (hkz : okN e.key) : Calls Tryz.prog 16 #[jbV j, evV e] w fun r w' => r = .returned (.int .i64 (if evB j.sources e ∧ evK e then 0 else 2)) ∧ Below w.heap.size w w' := by
  have hb := bl_alloc (bl_alloc (Below.refl w.heap.size w) (Obj.cells #[.int .i64 j.groups, .int .i64 j.sources, .int .i64 j.bound, .int .i64 j.late, .slice j.A j.ops.length j.c] 24)) (Obj.cells #[.int .i64 e.k, .int .i64 e.src, .int .i64 e.t, .string e.key, .int .i64 e.v] 26)
  have HB := Lib.hid hb
  have HC := Lib.hid (jcheck_any j _ (hA.below hb) hc hcb)
  rw [if_pos hj] at HC
  obtain ⟨R, hR⟩ : ∃ R : Int, (if evB j.sources e ∧ evK e then (0 : Int) else 2) = R := ⟨_, rfl⟩
  rw [hR]
  have hem : ¬ e.key = ByteArray.empty := fun h => by rw [(empty_iff e.key).1 h] at hke; cases hke
  have HR : Hid (R = 2) := Lib.hid (by
    rw [← hR, if_neg]
    unfold evK
    rintro ⟨_, h⟩
    simp [hk, hem] at h)
  clear hem
  have hn0 := heap_alloc_new w (Obj.cells #[.int .i64 j.groups, .int .i64 j.sources, .int .i64 j.bound, .int .i64 j.late, .slice j.A j.ops.length j.c] 24)
  have hn1 := heap_alloc_new (w.alloc (Obj.cells #[.int .i64 j.groups, .int .i64 j.sources, .int .i64 j.bound, .int .i64 j.late, .slice j.A j.ops.length j.c] 24)) (Obj.cells #[.int .i64 e.k, .int .i64 e.src, .int .i64 e.t, .string e.key, .int .i64 e.v] 26)
  have hs1 : (w.alloc (Obj.cells #[.int .i64 j.groups, .int .i64 j.sources, .int .i64 j.bound, .int .i64 j.late, .slice j.A j.ops.length j.c] 24)).heap.size = w.heap.size + 1 := by simp
  rw [hs1] at hn1
  have hn2 := ((Below.refl _ _).alloc (Nat.le_refl _) (Obj.cells #[.int .i64 e.k, .int .i64 e.src, .int .i64 e.t, .string e.key, .int .i64 e.v] 26)).block _ (by rw [hs1]; omega) |>.trans hn0
  have HN1 := Lib.hid hn1
  have HN2 := Lib.hid hn2
  obtain ⟨gr, so, bo, la, l, A, c⟩ := j
  obtain ⟨k, src, t, key, v⟩ := e
  unfold jbV evV at *
  dsimp only at *
  subst hk
  clear hA hb hj hn0 hn1 hn2 hR hs1
  go_enter Tryz.func16, Tryz.ntmps16
  go_wp2_with (fail)
  refine HC.out.mono ?_
  rintro e w1 ⟨rfl, hb1⟩
  have HB1 := Lib.hid (bl_then HB.out hb1)
  have hm1 := (hb1.block _ (by simp)).trans HN1.out
  have hm2 := (hb1.block _ (by simp; omega)).trans HN2.out
  have x0 := cell_of hm1 0
  have x1 := cell_of hm1 1
  have x2 := cell_of hm1 2
  have x3 := cell_of hm1 3
  have x4 := cell_of hm1 4
  have xl := (Array.getElem?_eq_some_iff.1 hm1).1
  have y1 := cell_of hm2 1
  have yl := (Array.getElem?_eq_some_iff.1 hm2).1
  simp only [List.getElem?_toArray, List.getElem?_cons_zero, List.getElem?_cons_succ] at x0 x1 x2 x3 x4 y1
  clear hb1 hm1 hm2 HN1 HN2 HC HB
  go_wp2_with (fail)
  all_goals (
    go_ret
    refine ⟨?_, HB1.out⟩
    rw [HR.out]
    rfl)
set_option maxRecDepth 100000 in
set_option maxHeartbeats 8000000 in
theorem check_other (j : Jb) (e : Ev) (w : World) (hA : RdP w j.A j.ops) (hc : j.ops.length ≤ j.c) (hcb : j.c ≤ 9223372036854775807) (hj : jobP j) (hk : e.k ≠ 1 ∧ e.k ≠ 2 ∧ e.k ≠ 3) (hkz : okN e.key) : Calls Tryz.prog 16 #[jbV j, evV e] w fun r w' => r = .returned (.int .i64 (if evB j.sources e ∧ evK e then 0 else 2)) ∧ Below w.heap.size w w' := by
  have hb := bl_alloc (bl_alloc (Below.refl w.heap.size w) (Obj.cells #[.int .i64 j.groups, .int .i64 j.sources, .int .i64 j.bound, .int .i64 j.late, .slice j.A j.ops.length j.c] 24)) (Obj.cells #[.int .i64 e.k, .int .i64 e.src, .int .i64 e.t, .string e.key, .int .i64 e.v] 26)
  have HB := Lib.hid hb
  have HC := Lib.hid (jcheck_any j _ (hA.below hb) hc hcb)
  rw [if_pos hj] at HC
  obtain ⟨R, hR⟩ : ∃ R : Int, (if evB j.sources e ∧ evK e then (0 : Int) else 2) = R := ⟨_, rfl⟩
  rw [hR]
  have HR : Hid (R = 2) := Lib.hid (by
    rw [← hR, if_neg]
    unfold evK
    omega)
  obtain ⟨hk1, hk2, hk3⟩ := hk
  have hn0 := heap_alloc_new w (Obj.cells #[.int .i64 j.groups, .int .i64 j.sources, .int .i64 j.bound, .int .i64 j.late, .slice j.A j.ops.length j.c] 24)
  have hn1 := heap_alloc_new (w.alloc (Obj.cells #[.int .i64 j.groups, .int .i64 j.sources, .int .i64 j.bound, .int .i64 j.late, .slice j.A j.ops.length j.c] 24)) (Obj.cells #[.int .i64 e.k, .int .i64 e.src, .int .i64 e.t, .string e.key, .int .i64 e.v] 26)
  have hs1 : (w.alloc (Obj.cells #[.int .i64 j.groups, .int .i64 j.sources, .int .i64 j.bound, .int .i64 j.late, .slice j.A j.ops.length j.c] 24)).heap.size = w.heap.size + 1 := by simp
  rw [hs1] at hn1
  have hn2 := ((Below.refl _ _).alloc (Nat.le_refl _) (Obj.cells #[.int .i64 e.k, .int .i64 e.src, .int .i64 e.t, .string e.key, .int .i64 e.v] 26)).block _ (by rw [hs1]; omega) |>.trans hn0
  have HN1 := Lib.hid hn1
  have HN2 := Lib.hid hn2
  obtain ⟨gr, so, bo, la, l, A, c⟩ := j
  obtain ⟨k, src, t, key, v⟩ := e
  unfold jbV evV at *
  dsimp only at *
  have b1 : (k == 1) = false := by simpa using hk1
  have b2 : (k == 2) = false := by simpa using hk2
  have b3 : (k == 3) = false := by simpa using hk3
  clear hA hb hj hn0 hn1 hn2 hR hs1
  go_enter Tryz.func16, Tryz.ntmps16
  go_wp2_with (fail)
  refine HC.out.mono ?_
  rintro e w1 ⟨rfl, hb1⟩
  have HB1 := Lib.hid (bl_then HB.out hb1)
  have hm1 := (hb1.block _ (by simp)).trans HN1.out
  have hm2 := (hb1.block _ (by simp; omega)).trans HN2.out
  have x0 := cell_of hm1 0
  have x1 := cell_of hm1 1
  have x2 := cell_of hm1 2
  have x3 := cell_of hm1 3
  have x4 := cell_of hm1 4
  have xl := (Array.getElem?_eq_some_iff.1 hm1).1
  have y1 := cell_of hm2 1
  have yl := (Array.getElem?_eq_some_iff.1 hm2).1
  simp only [List.getElem?_toArray, List.getElem?_cons_zero, List.getElem?_cons_succ] at x0 x1 x2 x3 x4 y1
  clear hb1 hm1 hm2 HN1 HN2 HC HB
  go_wp2_with (fail)
  all_goals (
    go_ret
    refine ⟨?_, HB1.out⟩
    rw [HR.out]
    rfl)
theorem check_ok (j : Jb) (e : Ev) (w : World) (hA : RdP w j.A j.ops) (hc : j.ops.length ≤ j.c) (hcb : j.c ≤ 9223372036854775807) (hj : jobP j) (hkz : okN e.key) : Calls Tryz.prog 16 #[jbV j, evV e] w fun r w' => r = .returned (.int .i64 (if evB j.sources e ∧ evK e then 0 else 2)) ∧ Below w.heap.size w w' := by
  by_cases h1 : e.k = 1
  · exact check_rec j e w hA hc hcb hj h1 hkz
  by_cases h2 : e.k = 2
  · cases hke : e.key.toList.isEmpty
    · exact check_mark_n j e w hA hc hcb hj h2 hke hkz
    · exact check_mark_e j e w hA hc hcb hj h2 hke hkz
  by_cases h3 : e.k = 3
  · cases hke : e.key.toList.isEmpty
    · exact check_idle_n j e w hA hc hcb hj h3 hke hkz
    · exact check_idle_e j e w hA hc hcb hj h3 hke hkz
  exact check_other j e w hA hc hcb hj ⟨h1, h2, h3⟩ hkz
end Go.Proofs.YtfojblbnhapedaaGreatDoor
