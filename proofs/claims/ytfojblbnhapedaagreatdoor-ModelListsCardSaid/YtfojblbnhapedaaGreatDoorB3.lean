/- Contract of job.Check: where a number may not be. Conditions: as each theorem states them. -/
import Derived.Test.YtfojblbnhapedaaGreatDoorB2
namespace Go.Proofs.YtfojblbnhapedaaGreatDoor
open Go.RowKit
set_option linter.unusedVariables false
set_option linter.unusedSimpArgs false

set_option maxRecDepth 100000 in
set_option maxHeartbeats 8000000 in
theorem jcheck_no0 (groups sources bound late : Int) (A : Option Addr) (l : List JOp) (m c : Nat) (w : World) (hm : l.length = m) (hA : RdP w A l) (hc : m ≤ c) (hcb : c ≤ 9223372036854775807)  (h0 : ¬ 1 ≤ groups) :
    Calls Tryz.prog 33 #[.agg #[.int .i64 groups, .int .i64 sources, .int .i64 bound, .int .i64 late, .slice A m c]] w fun e w' => e = .returned (.int .i64 (2)) ∧ Below w.heap.size w w' := by
  have hb0 := bl_alloc (Below.refl w.heap.size w) (Obj.cells #[.int .i64 groups, .int .i64 sources, .int .i64 bound, .int .i64 late, .slice A m c] 24)
  have HB0 := Lib.hid hb0
  have HX := Lib.hid (heap_alloc_new w (Obj.cells #[.int .i64 groups, .int .i64 sources, .int .i64 bound, .int .i64 late, .slice A m c] 24))
  have HA := Lib.hid (hA.below hb0)
  have HM := Lib.hid hm
  have HO := Lib.hid hA.2
  clear hm hA hb0
  go_enter Tryz.func33, Tryz.ntmps33
  go_wp2_with (fail)
  generalize (w.alloc (Obj.cells #[.int .i64 groups, .int .i64 sources, .int .i64 bound, .int .i64 late, .slice A m c] 24)) = W at *
  go_loopw [3, 53] (fun vo vi wr => ∃ i : Nat, i ≤ m ∧ vi = .int .i64 i ∧ vo = .bool false ∧ Below W.heap.size W wr) (fun _ i _ => m - (intOf i).toNat)
  case atStart => exact ⟨0, Nat.zero_le _, rfl, rfl, Below.refl _ _⟩
  case round =>
    obtain ⟨i, hin, rfl, rfl, hbl⟩ := hrel
    have HBL := Lib.hid hbl
    clear hbl
    by_cases hi : i < m
    · have hi0 : (0 : Int) ≤ (i : Int) := by omega
      have hi1 : (i : Int) < (m : Int) := by omega
      obtain ⟨b, off, rfl, hb, hcc⟩ := (HA.out.below HBL.out).1 (by rw [HM.out]; omega)
      have hil : i < l.length := by rw [HM.out]; exact hi
      obtain ⟨u0, u1, u2, u3, u4⟩ := hcc i hil
      have hom : l.getD i zeroP ∈ l := by rw [List.getD_eq_getElem?_getD, List.getElem?_eq_getElem hil]; exact List.getElem_mem _
      have HOK := Lib.hid (HO.out _ hom)
      obtain ⟨o, ho⟩ : ∃ o, l.getD i zeroP = o := ⟨_, rfl⟩
      rw [ho] at u0 u1 u2 u3 u4 HOK
      have HOI := Lib.hid ho
      clear hcc hom ho
      obtain ⟨nm, agg, k, s, ll⟩ := o
      dsimp only at u0 u1 u2 u3 u4 HOK
      have HB1 := Lib.hid (HBL.out.trans ((bl_alloc (Below.refl wr.heap.size wr) (Obj.cells #[.string nm, .int .i64 agg, .int .i64 k, .int .i64 s, .int .i64 ll] 48)).mono HBL.out.size))
      go_wp2_with (fail)
      exact ⟨⟨i + 1, by omega, by push_cast; rfl, rfl, HB1.out⟩, by simp [intOf]; omega⟩
    · have hi1 : ¬ (i : Int) < (m : Int) := by omega
      go_wp2_with (fail)
      go_ret
      exact ⟨rfl, HB0.out.trans (HBL.out.mono HB0.out.size)⟩
set_option maxRecDepth 100000 in
set_option maxHeartbeats 8000000 in
theorem jcheck_no1 (groups sources bound late : Int) (A : Option Addr) (l : List JOp) (m c : Nat) (w : World) (hm : l.length = m) (hA : RdP w A l) (hc : m ≤ c) (hcb : c ≤ 9223372036854775807) (h0 : 1 ≤ groups) (h1 : ¬ groups ≤ 64) :
    Calls Tryz.prog 33 #[.agg #[.int .i64 groups, .int .i64 sources, .int .i64 bound, .int .i64 late, .slice A m c]] w fun e w' => e = .returned (.int .i64 (2)) ∧ Below w.heap.size w w' := by
  have hb0 := bl_alloc (Below.refl w.heap.size w) (Obj.cells #[.int .i64 groups, .int .i64 sources, .int .i64 bound, .int .i64 late, .slice A m c] 24)
  have HB0 := Lib.hid hb0
  have HX := Lib.hid (heap_alloc_new w (Obj.cells #[.int .i64 groups, .int .i64 sources, .int .i64 bound, .int .i64 late, .slice A m c] 24))
  have HA := Lib.hid (hA.below hb0)
  have HM := Lib.hid hm
  have HO := Lib.hid hA.2
  clear hm hA hb0
  go_enter Tryz.func33, Tryz.ntmps33
  go_wp2_with (fail)
  generalize (w.alloc (Obj.cells #[.int .i64 groups, .int .i64 sources, .int .i64 bound, .int .i64 late, .slice A m c] 24)) = W at *
  go_loopw [3, 53] (fun vo vi wr => ∃ i : Nat, i ≤ m ∧ vi = .int .i64 i ∧ vo = .bool false ∧ Below W.heap.size W wr) (fun _ i _ => m - (intOf i).toNat)
  case atStart => exact ⟨0, Nat.zero_le _, rfl, rfl, Below.refl _ _⟩
  case round =>
    obtain ⟨i, hin, rfl, rfl, hbl⟩ := hrel
    have HBL := Lib.hid hbl
    clear hbl
    by_cases hi : i < m
    · have hi0 : (0 : Int) ≤ (i : Int) := by omega
      have hi1 : (i : Int) < (m : Int) := by omega
      obtain ⟨b, off, rfl, hb, hcc⟩ := (HA.out.below HBL.out).1 (by rw [HM.out]; omega)
      have hil : i < l.length := by rw [HM.out]; exact hi
      obtain ⟨u0, u1, u2, u3, u4⟩ := hcc i hil
      have hom : l.getD i zeroP ∈ l := by rw [List.getD_eq_getElem?_getD, List.getElem?_eq_getElem hil]; exact List.getElem_mem _
      have HOK := Lib.hid (HO.out _ hom)
      obtain ⟨o, ho⟩ : ∃ o, l.getD i zeroP = o := ⟨_, rfl⟩
      rw [ho] at u0 u1 u2 u3 u4 HOK
      have HOI := Lib.hid ho
      clear hcc hom ho
      obtain ⟨nm, agg, k, s, ll⟩ := o
      dsimp only at u0 u1 u2 u3 u4 HOK
      have HB1 := Lib.hid (HBL.out.trans ((bl_alloc (Below.refl wr.heap.size wr) (Obj.cells #[.string nm, .int .i64 agg, .int .i64 k, .int .i64 s, .int .i64 ll] 48)).mono HBL.out.size))
      go_wp2_with (fail)
      exact ⟨⟨i + 1, by omega, by push_cast; rfl, rfl, HB1.out⟩, by simp [intOf]; omega⟩
    · have hi1 : ¬ (i : Int) < (m : Int) := by omega
      go_wp2_with (fail)
      go_ret
      exact ⟨rfl, HB0.out.trans (HBL.out.mono HB0.out.size)⟩
set_option maxRecDepth 100000 in
set_option maxHeartbeats 8000000 in
theorem jcheck_no2 (groups sources bound late : Int) (A : Option Addr) (l : List JOp) (m c : Nat) (w : World) (hm : l.length = m) (hA : RdP w A l) (hc : m ≤ c) (hcb : c ≤ 9223372036854775807) (h0 : 1 ≤ groups) (h1 : groups ≤ 64) (h2 : ¬ 1 ≤ sources) :
    Calls Tryz.prog 33 #[.agg #[.int .i64 groups, .int .i64 sources, .int .i64 bound, .int .i64 late, .slice A m c]] w fun e w' => e = .returned (.int .i64 (2)) ∧ Below w.heap.size w w' := by
  have hb0 := bl_alloc (Below.refl w.heap.size w) (Obj.cells #[.int .i64 groups, .int .i64 sources, .int .i64 bound, .int .i64 late, .slice A m c] 24)
  have HB0 := Lib.hid hb0
  have HX := Lib.hid (heap_alloc_new w (Obj.cells #[.int .i64 groups, .int .i64 sources, .int .i64 bound, .int .i64 late, .slice A m c] 24))
  have HA := Lib.hid (hA.below hb0)
  have HM := Lib.hid hm
  have HO := Lib.hid hA.2
  clear hm hA hb0
  go_enter Tryz.func33, Tryz.ntmps33
  go_wp2_with (fail)
  generalize (w.alloc (Obj.cells #[.int .i64 groups, .int .i64 sources, .int .i64 bound, .int .i64 late, .slice A m c] 24)) = W at *
  go_loopw [3, 53] (fun vo vi wr => ∃ i : Nat, i ≤ m ∧ vi = .int .i64 i ∧ vo = .bool false ∧ Below W.heap.size W wr) (fun _ i _ => m - (intOf i).toNat)
  case atStart => exact ⟨0, Nat.zero_le _, rfl, rfl, Below.refl _ _⟩
  case round =>
    obtain ⟨i, hin, rfl, rfl, hbl⟩ := hrel
    have HBL := Lib.hid hbl
    clear hbl
    by_cases hi : i < m
    · have hi0 : (0 : Int) ≤ (i : Int) := by omega
      have hi1 : (i : Int) < (m : Int) := by omega
      obtain ⟨b, off, rfl, hb, hcc⟩ := (HA.out.below HBL.out).1 (by rw [HM.out]; omega)
      have hil : i < l.length := by rw [HM.out]; exact hi
      obtain ⟨u0, u1, u2, u3, u4⟩ := hcc i hil
      have hom : l.getD i zeroP ∈ l := by rw [List.getD_eq_getElem?_getD, List.getElem?_eq_getElem hil]; exact List.getElem_mem _
      have HOK := Lib.hid (HO.out _ hom)
      obtain ⟨o, ho⟩ : ∃ o, l.getD i zeroP = o := ⟨_, rfl⟩
      rw [ho] at u0 u1 u2 u3 u4 HOK
      have HOI := Lib.hid ho
      clear hcc hom ho
      obtain ⟨nm, agg, k, s, ll⟩ := o
      dsimp only at u0 u1 u2 u3 u4 HOK
      have HB1 := Lib.hid (HBL.out.trans ((bl_alloc (Below.refl wr.heap.size wr) (Obj.cells #[.string nm, .int .i64 agg, .int .i64 k, .int .i64 s, .int .i64 ll] 48)).mono HBL.out.size))
      go_wp2_with (fail)
      exact ⟨⟨i + 1, by omega, by push_cast; rfl, rfl, HB1.out⟩, by simp [intOf]; omega⟩
    · have hi1 : ¬ (i : Int) < (m : Int) := by omega
      go_wp2_with (fail)
      go_ret
      exact ⟨rfl, HB0.out.trans (HBL.out.mono HB0.out.size)⟩
set_option maxRecDepth 100000 in
set_option maxHeartbeats 8000000 in
theorem jcheck_no3 (groups sources bound late : Int) (A : Option Addr) (l : List JOp) (m c : Nat) (w : World) (hm : l.length = m) (hA : RdP w A l) (hc : m ≤ c) (hcb : c ≤ 9223372036854775807) (h0 : 1 ≤ groups) (h1 : groups ≤ 64) (h2 : 1 ≤ sources) (h3 : ¬ sources ≤ 16) :
    Calls Tryz.prog 33 #[.agg #[.int .i64 groups, .int .i64 sources, .int .i64 bound, .int .i64 late, .slice A m c]] w fun e w' => e = .returned (.int .i64 (2)) ∧ Below w.heap.size w w' := by
  have hb0 := bl_alloc (Below.refl w.heap.size w) (Obj.cells #[.int .i64 groups, .int .i64 sources, .int .i64 bound, .int .i64 late, .slice A m c] 24)
  have HB0 := Lib.hid hb0
  have HX := Lib.hid (heap_alloc_new w (Obj.cells #[.int .i64 groups, .int .i64 sources, .int .i64 bound, .int .i64 late, .slice A m c] 24))
  have HA := Lib.hid (hA.below hb0)
  have HM := Lib.hid hm
  have HO := Lib.hid hA.2
  clear hm hA hb0
  go_enter Tryz.func33, Tryz.ntmps33
  go_wp2_with (fail)
  generalize (w.alloc (Obj.cells #[.int .i64 groups, .int .i64 sources, .int .i64 bound, .int .i64 late, .slice A m c] 24)) = W at *
  go_loopw [3, 53] (fun vo vi wr => ∃ i : Nat, i ≤ m ∧ vi = .int .i64 i ∧ vo = .bool false ∧ Below W.heap.size W wr) (fun _ i _ => m - (intOf i).toNat)
  case atStart => exact ⟨0, Nat.zero_le _, rfl, rfl, Below.refl _ _⟩
  case round =>
    obtain ⟨i, hin, rfl, rfl, hbl⟩ := hrel
    have HBL := Lib.hid hbl
    clear hbl
    by_cases hi : i < m
    · have hi0 : (0 : Int) ≤ (i : Int) := by omega
      have hi1 : (i : Int) < (m : Int) := by omega
      obtain ⟨b, off, rfl, hb, hcc⟩ := (HA.out.below HBL.out).1 (by rw [HM.out]; omega)
      have hil : i < l.length := by rw [HM.out]; exact hi
      obtain ⟨u0, u1, u2, u3, u4⟩ := hcc i hil
      have hom : l.getD i zeroP ∈ l := by rw [List.getD_eq_getElem?_getD, List.getElem?_eq_getElem hil]; exact List.getElem_mem _
      have HOK := Lib.hid (HO.out _ hom)
      obtain ⟨o, ho⟩ : ∃ o, l.getD i zeroP = o := ⟨_, rfl⟩
      rw [ho] at u0 u1 u2 u3 u4 HOK
      have HOI := Lib.hid ho
      clear hcc hom ho
      obtain ⟨nm, agg, k, s, ll⟩ := o
      dsimp only at u0 u1 u2 u3 u4 HOK
      have HB1 := Lib.hid (HBL.out.trans ((bl_alloc (Below.refl wr.heap.size wr) (Obj.cells #[.string nm, .int .i64 agg, .int .i64 k, .int .i64 s, .int .i64 ll] 48)).mono HBL.out.size))
      go_wp2_with (fail)
      exact ⟨⟨i + 1, by omega, by push_cast; rfl, rfl, HB1.out⟩, by simp [intOf]; omega⟩
    · have hi1 : ¬ (i : Int) < (m : Int) := by omega
      go_wp2_with (fail)
      go_ret
      exact ⟨rfl, HB0.out.trans (HBL.out.mono HB0.out.size)⟩
set_option maxRecDepth 100000 in
set_option maxHeartbeats 8000000 in
theorem jcheck_no4 (groups sources bound late : Int) (A : Option Addr) (l : List JOp) (m c : Nat) (w : World) (hm : l.length = m) (hA : RdP w A l) (hc : m ≤ c) (hcb : c ≤ 9223372036854775807) (h0 : 1 ≤ groups) (h1 : groups ≤ 64) (h2 : 1 ≤ sources) (h3 : sources ≤ 16) (h4 : ¬ 0 ≤ bound) :
    Calls Tryz.prog 33 #[.agg #[.int .i64 groups, .int .i64 sources, .int .i64 bound, .int .i64 late, .slice A m c]] w fun e w' => e = .returned (.int .i64 (2)) ∧ Below w.heap.size w w' := by
  have hb0 := bl_alloc (Below.refl w.heap.size w) (Obj.cells #[.int .i64 groups, .int .i64 sources, .int .i64 bound, .int .i64 late, .slice A m c] 24)
  have HB0 := Lib.hid hb0
  have HX := Lib.hid (heap_alloc_new w (Obj.cells #[.int .i64 groups, .int .i64 sources, .int .i64 bound, .int .i64 late, .slice A m c] 24))
  have HA := Lib.hid (hA.below hb0)
  have HM := Lib.hid hm
  have HO := Lib.hid hA.2
  clear hm hA hb0
  go_enter Tryz.func33, Tryz.ntmps33
  go_wp2_with (fail)
  generalize (w.alloc (Obj.cells #[.int .i64 groups, .int .i64 sources, .int .i64 bound, .int .i64 late, .slice A m c] 24)) = W at *
  go_loopw [3, 53] (fun vo vi wr => ∃ i : Nat, i ≤ m ∧ vi = .int .i64 i ∧ vo = .bool false ∧ Below W.heap.size W wr) (fun _ i _ => m - (intOf i).toNat)
  case atStart => exact ⟨0, Nat.zero_le _, rfl, rfl, Below.refl _ _⟩
  case round =>
    obtain ⟨i, hin, rfl, rfl, hbl⟩ := hrel
    have HBL := Lib.hid hbl
    clear hbl
    by_cases hi : i < m
    · have hi0 : (0 : Int) ≤ (i : Int) := by omega
      have hi1 : (i : Int) < (m : Int) := by omega
      obtain ⟨b, off, rfl, hb, hcc⟩ := (HA.out.below HBL.out).1 (by rw [HM.out]; omega)
      have hil : i < l.length := by rw [HM.out]; exact hi
      obtain ⟨u0, u1, u2, u3, u4⟩ := hcc i hil
      have hom : l.getD i zeroP ∈ l := by rw [List.getD_eq_getElem?_getD, List.getElem?_eq_getElem hil]; exact List.getElem_mem _
      have HOK := Lib.hid (HO.out _ hom)
      obtain ⟨o, ho⟩ : ∃ o, l.getD i zeroP = o := ⟨_, rfl⟩
      rw [ho] at u0 u1 u2 u3 u4 HOK
      have HOI := Lib.hid ho
      clear hcc hom ho
      obtain ⟨nm, agg, k, s, ll⟩ := o
      dsimp only at u0 u1 u2 u3 u4 HOK
      have HB1 := Lib.hid (HBL.out.trans ((bl_alloc (Below.refl wr.heap.size wr) (Obj.cells #[.string nm, .int .i64 agg, .int .i64 k, .int .i64 s, .int .i64 ll] 48)).mono HBL.out.size))
      go_wp2_with (fail)
      exact ⟨⟨i + 1, by omega, by push_cast; rfl, rfl, HB1.out⟩, by simp [intOf]; omega⟩
    · have hi1 : ¬ (i : Int) < (m : Int) := by omega
      go_wp2_with (fail)
      go_ret
      exact ⟨rfl, HB0.out.trans (HBL.out.mono HB0.out.size)⟩
set_option maxRecDepth 100000 in
set_option maxHeartbeats 8000000 in
theorem jcheck_no5 (groups sources bound late : Int) (A : Option Addr) (l : List JOp) (m c : Nat) (w : World) (hm : l.length = m) (hA : RdP w A l) (hc : m ≤ c) (hcb : c ≤ 9223372036854775807) (h0 : 1 ≤ groups) (h1 : groups ≤ 64) (h2 : 1 ≤ sources) (h3 : sources ≤ 16) (h4 : 0 ≤ bound) (h5 : ¬ bound ≤ 1099511627776) :
    Calls Tryz.prog 33 #[.agg #[.int .i64 groups, .int .i64 sources, .int .i64 bound, .int .i64 late, .slice A m c]] w fun e w' => e = .returned (.int .i64 (2)) ∧ Below w.heap.size w w' := by
  have hb0 := bl_alloc (Below.refl w.heap.size w) (Obj.cells #[.int .i64 groups, .int .i64 sources, .int .i64 bound, .int .i64 late, .slice A m c] 24)
  have HB0 := Lib.hid hb0
  have HX := Lib.hid (heap_alloc_new w (Obj.cells #[.int .i64 groups, .int .i64 sources, .int .i64 bound, .int .i64 late, .slice A m c] 24))
  have HA := Lib.hid (hA.below hb0)
  have HM := Lib.hid hm
  have HO := Lib.hid hA.2
  clear hm hA hb0
  go_enter Tryz.func33, Tryz.ntmps33
  go_wp2_with (fail)
  generalize (w.alloc (Obj.cells #[.int .i64 groups, .int .i64 sources, .int .i64 bound, .int .i64 late, .slice A m c] 24)) = W at *
  go_loopw [3, 53] (fun vo vi wr => ∃ i : Nat, i ≤ m ∧ vi = .int .i64 i ∧ vo = .bool false ∧ Below W.heap.size W wr) (fun _ i _ => m - (intOf i).toNat)
  case atStart => exact ⟨0, Nat.zero_le _, rfl, rfl, Below.refl _ _⟩
  case round =>
    obtain ⟨i, hin, rfl, rfl, hbl⟩ := hrel
    have HBL := Lib.hid hbl
    clear hbl
    by_cases hi : i < m
    · have hi0 : (0 : Int) ≤ (i : Int) := by omega
      have hi1 : (i : Int) < (m : Int) := by omega
      obtain ⟨b, off, rfl, hb, hcc⟩ := (HA.out.below HBL.out).1 (by rw [HM.out]; omega)
      have hil : i < l.length := by rw [HM.out]; exact hi
      obtain ⟨u0, u1, u2, u3, u4⟩ := hcc i hil
      have hom : l.getD i zeroP ∈ l := by rw [List.getD_eq_getElem?_getD, List.getElem?_eq_getElem hil]; exact List.getElem_mem _
      have HOK := Lib.hid (HO.out _ hom)
      obtain ⟨o, ho⟩ : ∃ o, l.getD i zeroP = o := ⟨_, rfl⟩
      rw [ho] at u0 u1 u2 u3 u4 HOK
      have HOI := Lib.hid ho
      clear hcc hom ho
      obtain ⟨nm, agg, k, s, ll⟩ := o
      dsimp only at u0 u1 u2 u3 u4 HOK
      have HB1 := Lib.hid (HBL.out.trans ((bl_alloc (Below.refl wr.heap.size wr) (Obj.cells #[.string nm, .int .i64 agg, .int .i64 k, .int .i64 s, .int .i64 ll] 48)).mono HBL.out.size))
      go_wp2_with (fail)
      exact ⟨⟨i + 1, by omega, by push_cast; rfl, rfl, HB1.out⟩, by simp [intOf]; omega⟩
    · have hi1 : ¬ (i : Int) < (m : Int) := by omega
      go_wp2_with (fail)
      go_ret
      exact ⟨rfl, HB0.out.trans (HBL.out.mono HB0.out.size)⟩
set_option maxRecDepth 100000 in
set_option maxHeartbeats 8000000 in
theorem jcheck_no6 (groups sources bound late : Int) (A : Option Addr) (l : List JOp) (m c : Nat) (w : World) (hm : l.length = m) (hA : RdP w A l) (hc : m ≤ c) (hcb : c ≤ 9223372036854775807) (h0 : 1 ≤ groups) (h1 : groups ≤ 64) (h2 : 1 ≤ sources) (h3 : sources ≤ 16) (h4 : 0 ≤ bound) (h5 : bound ≤ 1099511627776) (h6 : ¬ 0 ≤ late) :
    Calls Tryz.prog 33 #[.agg #[.int .i64 groups, .int .i64 sources, .int .i64 bound, .int .i64 late, .slice A m c]] w fun e w' => e = .returned (.int .i64 (2)) ∧ Below w.heap.size w w' := by
  have hb0 := bl_alloc (Below.refl w.heap.size w) (Obj.cells #[.int .i64 groups, .int .i64 sources, .int .i64 bound, .int .i64 late, .slice A m c] 24)
  have HB0 := Lib.hid hb0
  have HX := Lib.hid (heap_alloc_new w (Obj.cells #[.int .i64 groups, .int .i64 sources, .int .i64 bound, .int .i64 late, .slice A m c] 24))
  have HA := Lib.hid (hA.below hb0)
  have HM := Lib.hid hm
  have HO := Lib.hid hA.2
  clear hm hA hb0
  go_enter Tryz.func33, Tryz.ntmps33
  go_wp2_with (fail)
  generalize (w.alloc (Obj.cells #[.int .i64 groups, .int .i64 sources, .int .i64 bound, .int .i64 late, .slice A m c] 24)) = W at *
  go_loopw [3, 53] (fun vo vi wr => ∃ i : Nat, i ≤ m ∧ vi = .int .i64 i ∧ vo = .bool false ∧ Below W.heap.size W wr) (fun _ i _ => m - (intOf i).toNat)
  case atStart => exact ⟨0, Nat.zero_le _, rfl, rfl, Below.refl _ _⟩
  case round =>
    obtain ⟨i, hin, rfl, rfl, hbl⟩ := hrel
    have HBL := Lib.hid hbl
    clear hbl
    by_cases hi : i < m
    · have hi0 : (0 : Int) ≤ (i : Int) := by omega
      have hi1 : (i : Int) < (m : Int) := by omega
      obtain ⟨b, off, rfl, hb, hcc⟩ := (HA.out.below HBL.out).1 (by rw [HM.out]; omega)
      have hil : i < l.length := by rw [HM.out]; exact hi
      obtain ⟨u0, u1, u2, u3, u4⟩ := hcc i hil
      have hom : l.getD i zeroP ∈ l := by rw [List.getD_eq_getElem?_getD, List.getElem?_eq_getElem hil]; exact List.getElem_mem _
      have HOK := Lib.hid (HO.out _ hom)
      obtain ⟨o, ho⟩ : ∃ o, l.getD i zeroP = o := ⟨_, rfl⟩
      rw [ho] at u0 u1 u2 u3 u4 HOK
      have HOI := Lib.hid ho
      clear hcc hom ho
      obtain ⟨nm, agg, k, s, ll⟩ := o
      dsimp only at u0 u1 u2 u3 u4 HOK
      have HB1 := Lib.hid (HBL.out.trans ((bl_alloc (Below.refl wr.heap.size wr) (Obj.cells #[.string nm, .int .i64 agg, .int .i64 k, .int .i64 s, .int .i64 ll] 48)).mono HBL.out.size))
      go_wp2_with (fail)
      exact ⟨⟨i + 1, by omega, by push_cast; rfl, rfl, HB1.out⟩, by simp [intOf]; omega⟩
    · have hi1 : ¬ (i : Int) < (m : Int) := by omega
      go_wp2_with (fail)
      go_ret
      exact ⟨rfl, HB0.out.trans (HBL.out.mono HB0.out.size)⟩
set_option maxRecDepth 100000 in
set_option maxHeartbeats 8000000 in
theorem jcheck_no7 (groups sources bound late : Int) (A : Option Addr) (l : List JOp) (m c : Nat) (w : World) (hm : l.length = m) (hA : RdP w A l) (hc : m ≤ c) (hcb : c ≤ 9223372036854775807) (h0 : 1 ≤ groups) (h1 : groups ≤ 64) (h2 : 1 ≤ sources) (h3 : sources ≤ 16) (h4 : 0 ≤ bound) (h5 : bound ≤ 1099511627776) (h6 : 0 ≤ late) (h7 : ¬ late ≤ 1099511627776) :
    Calls Tryz.prog 33 #[.agg #[.int .i64 groups, .int .i64 sources, .int .i64 bound, .int .i64 late, .slice A m c]] w fun e w' => e = .returned (.int .i64 (2)) ∧ Below w.heap.size w w' := by
  have hb0 := bl_alloc (Below.refl w.heap.size w) (Obj.cells #[.int .i64 groups, .int .i64 sources, .int .i64 bound, .int .i64 late, .slice A m c] 24)
  have HB0 := Lib.hid hb0
  have HX := Lib.hid (heap_alloc_new w (Obj.cells #[.int .i64 groups, .int .i64 sources, .int .i64 bound, .int .i64 late, .slice A m c] 24))
  have HA := Lib.hid (hA.below hb0)
  have HM := Lib.hid hm
  have HO := Lib.hid hA.2
  clear hm hA hb0
  go_enter Tryz.func33, Tryz.ntmps33
  go_wp2_with (fail)
  generalize (w.alloc (Obj.cells #[.int .i64 groups, .int .i64 sources, .int .i64 bound, .int .i64 late, .slice A m c] 24)) = W at *
  go_loopw [3, 53] (fun vo vi wr => ∃ i : Nat, i ≤ m ∧ vi = .int .i64 i ∧ vo = .bool false ∧ Below W.heap.size W wr) (fun _ i _ => m - (intOf i).toNat)
  case atStart => exact ⟨0, Nat.zero_le _, rfl, rfl, Below.refl _ _⟩
  case round =>
    obtain ⟨i, hin, rfl, rfl, hbl⟩ := hrel
    have HBL := Lib.hid hbl
    clear hbl
    by_cases hi : i < m
    · have hi0 : (0 : Int) ≤ (i : Int) := by omega
      have hi1 : (i : Int) < (m : Int) := by omega
      obtain ⟨b, off, rfl, hb, hcc⟩ := (HA.out.below HBL.out).1 (by rw [HM.out]; omega)
      have hil : i < l.length := by rw [HM.out]; exact hi
      obtain ⟨u0, u1, u2, u3, u4⟩ := hcc i hil
      have hom : l.getD i zeroP ∈ l := by rw [List.getD_eq_getElem?_getD, List.getElem?_eq_getElem hil]; exact List.getElem_mem _
      have HOK := Lib.hid (HO.out _ hom)
      obtain ⟨o, ho⟩ : ∃ o, l.getD i zeroP = o := ⟨_, rfl⟩
      rw [ho] at u0 u1 u2 u3 u4 HOK
      have HOI := Lib.hid ho
      clear hcc hom ho
      obtain ⟨nm, agg, k, s, ll⟩ := o
      dsimp only at u0 u1 u2 u3 u4 HOK
      have HB1 := Lib.hid (HBL.out.trans ((bl_alloc (Below.refl wr.heap.size wr) (Obj.cells #[.string nm, .int .i64 agg, .int .i64 k, .int .i64 s, .int .i64 ll] 48)).mono HBL.out.size))
      go_wp2_with (fail)
      exact ⟨⟨i + 1, by omega, by push_cast; rfl, rfl, HB1.out⟩, by simp [intOf]; omega⟩
    · have hi1 : ¬ (i : Int) < (m : Int) := by omega
      go_wp2_with (fail)
      go_ret
      exact ⟨rfl, HB0.out.trans (HBL.out.mono HB0.out.size)⟩
set_option maxRecDepth 100000 in
set_option maxHeartbeats 8000000 in
theorem jcheck_no8 (groups sources bound late : Int) (A : Option Addr) (l : List JOp) (m c : Nat) (w : World) (hm : l.length = m) (hA : RdP w A l) (hc : m ≤ c) (hcb : c ≤ 9223372036854775807) (h0 : 1 ≤ groups) (h1 : groups ≤ 64) (h2 : 1 ≤ sources) (h3 : sources ≤ 16) (h4 : 0 ≤ bound) (h5 : bound ≤ 1099511627776) (h6 : 0 ≤ late) (h7 : late ≤ 1099511627776) (h8 : ¬ m ≤ 8) :
    Calls Tryz.prog 33 #[.agg #[.int .i64 groups, .int .i64 sources, .int .i64 bound, .int .i64 late, .slice A m c]] w fun e w' => e = .returned (.int .i64 (2)) ∧ Below w.heap.size w w' := by
  have hb0 := bl_alloc (Below.refl w.heap.size w) (Obj.cells #[.int .i64 groups, .int .i64 sources, .int .i64 bound, .int .i64 late, .slice A m c] 24)
  have HB0 := Lib.hid hb0
  have HX := Lib.hid (heap_alloc_new w (Obj.cells #[.int .i64 groups, .int .i64 sources, .int .i64 bound, .int .i64 late, .slice A m c] 24))
  have HA := Lib.hid (hA.below hb0)
  have HM := Lib.hid hm
  have HO := Lib.hid hA.2
  clear hm hA hb0
  have g8 : ¬ (m : Int) ≤ 8 := by omega
  go_enter Tryz.func33, Tryz.ntmps33
  go_wp2_with (fail)
  generalize (w.alloc (Obj.cells #[.int .i64 groups, .int .i64 sources, .int .i64 bound, .int .i64 late, .slice A m c] 24)) = W at *
  go_loopw [3, 53] (fun vo vi wr => ∃ i : Nat, i ≤ m ∧ vi = .int .i64 i ∧ vo = .bool false ∧ Below W.heap.size W wr) (fun _ i _ => m - (intOf i).toNat)
  case atStart => exact ⟨0, Nat.zero_le _, rfl, rfl, Below.refl _ _⟩
  case round =>
    obtain ⟨i, hin, rfl, rfl, hbl⟩ := hrel
    have HBL := Lib.hid hbl
    clear hbl
    by_cases hi : i < m
    · have hi0 : (0 : Int) ≤ (i : Int) := by omega
      have hi1 : (i : Int) < (m : Int) := by omega
      obtain ⟨b, off, rfl, hb, hcc⟩ := (HA.out.below HBL.out).1 (by rw [HM.out]; omega)
      have hil : i < l.length := by rw [HM.out]; exact hi
      obtain ⟨u0, u1, u2, u3, u4⟩ := hcc i hil
      have hom : l.getD i zeroP ∈ l := by rw [List.getD_eq_getElem?_getD, List.getElem?_eq_getElem hil]; exact List.getElem_mem _
      have HOK := Lib.hid (HO.out _ hom)
      obtain ⟨o, ho⟩ : ∃ o, l.getD i zeroP = o := ⟨_, rfl⟩
      rw [ho] at u0 u1 u2 u3 u4 HOK
      have HOI := Lib.hid ho
      clear hcc hom ho
      obtain ⟨nm, agg, k, s, ll⟩ := o
      dsimp only at u0 u1 u2 u3 u4 HOK
      have HB1 := Lib.hid (HBL.out.trans ((bl_alloc (Below.refl wr.heap.size wr) (Obj.cells #[.string nm, .int .i64 agg, .int .i64 k, .int .i64 s, .int .i64 ll] 48)).mono HBL.out.size))
      go_wp2_with (fail)
      exact ⟨⟨i + 1, by omega, by push_cast; rfl, rfl, HB1.out⟩, by simp [intOf]; omega⟩
    · have hi1 : ¬ (i : Int) < (m : Int) := by omega
      go_wp2_with (fail)
      go_ret
      exact ⟨rfl, HB0.out.trans (HBL.out.mono HB0.out.size)⟩
end Go.Proofs.YtfojblbnhapedaaGreatDoor
