/- The walk of the law WindowWithin: it returns true, for any list of windows and any window. Conditions: as the theorem states them. -/
import Derived.Test.YtgpmceimhfkncaaG2
import Derived.Test.YtgpmceimhfkncaaH0
namespace Go.Proofs.Ytgpmceimhfkncaa
open Go.RowKit Go.Proofs.YtgpmceimhfkncaaW.PrintWords Go.Proofs.Ytgpmceimhfkncaa.WW Go.Proofs.Ytgpmceimhfkncaa.PWindowWithin Go.Proofs.YtgpmceimhfkncaaW.PrintLast
set_option linter.unusedVariables false
set_option linter.unusedSimpArgs false

theorem same_two (A0 A1 : Option Addr) (c0 c1 : Nat) (l m : List (Int × Int)) (he : l = m) (w : World) (hr0 : Kd.C k33 w A0 (l.map toS).length (l.map toS)) (hc0 : l.length ≤ c0) (hr1 : Kd.C k33 w A1 (m.map toS).length (m.map toS)) (hc1 : m.length ≤ c1) :
    Calls Try.prog 14 #[.slice A0 l.length c0, .slice A1 m.length c1] w fun e w' => e = .returned (.bool true) ∧ Below w.heap.size w w' := by
  subst he
  exact same_any A0 A1 c0 c1 l w hr0 hc0 hr1 hc1

theorem within_far (A : Option Addr) (c : Nat) (l : List (Int × Int)) (x1 x2 : Int) (w : World) (hr : RdW w w.heap.size A l) (hn : 200 < l.length) :
    Calls Try.prog 9 #[.slice A l.length c, .agg #[.int .i64 x1, .int .i64 x2]] w fun e w' => e = .returned (.bool true) ∧ Below w.heap.size w w' := by
  have hml := hr.1
  clear hr
  go_enter Try.func9, Try.ntmps9
  go_wp2_with (fail)
  refine (awake_any _).mono ?_
  rintro e w1 ⟨rfl, hb1⟩
  go_wp2
  go_ret
  refine ⟨rfl, ?_⟩
  repeat first | exact Below.refl _ _ | refine Below.drew ?_ | refine bl_alloc ?_ _ | refine bl_then ?_ hb1

set_option maxHeartbeats 1000000 in
theorem within_no (A : Option Addr) (c : Nat) (l : List (Int × Int)) (x1 x2 : Int) (w : World) (hr : RdW w w.heap.size A l) (hc : l.length ≤ c) (hn : l.length ≤ 200) (hm : mergeV l (x1, x2) = ((0, 0), [], [], 2)) :
    Calls Try.prog 9 #[.slice A l.length c, .agg #[.int .i64 x1, .int .i64 x2]] w fun e w' => e = .returned (.bool true) ∧ Below w.heap.size w w' := by
  have hml := hr.1
  have HR := Lib.hid hr
  have HM := Lib.hid hm
  clear hr hm
  go_enter Try.func9, Try.ntmps9
  go_wp2_with (fail)
  refine (merge_any A c l x1 x2 _ ?_ hc (by omega) _ _ _ _ HM.out).mono ?_
  · exact (HR.out.below (bl_alloc (Below.refl _ _) _)).more (by simp)
  rintro e w1 ⟨vg, vr, rfl, hg, hr, hb1⟩
  obtain ⟨A1, c1, rfl, hc1, hr1⟩ := own_reads hg
  obtain ⟨A2, c2, rfl, hc2, hr2⟩ := own_reads hr
  clear hg hr
  go_wp2_with (fail)
  refine (awake_any _).mono ?_
  rintro e w2 ⟨rfl, hb2⟩
  go_wp2
  go_ret
  refine ⟨rfl, ?_⟩
  repeat first | exact Below.refl _ _ | refine Below.drew ?_ | refine bl_alloc ?_ _ | refine bl_then ?_ hb2 | refine bl_then ?_ hb1

set_option maxHeartbeats 1000000 in
theorem within_yes (A : Option Addr) (c : Nat) (l : List (Int × Int)) (x1 x2 : Int) (w : World) (hr : RdW w w.heap.size A l) (hc : l.length ≤ c) (hn : l.length ≤ 200)
    (o : Int × Int) (G R : List (Int × Int)) (hm : mergeV l (x1, x2) = (o, G, R, 0)) (hm2 : mergeV R (x1, x2) = (o, [o], R, 0)) (b : Bool) (hb : insideB l (x1, x2) = b) (hbl : b = true → R = l) (hb2 : insideB R (x1, x2) = true) (hb3 : insideB R o = true)
    (hlen : R.length + G.length = l.length + 1) (hap : apartFrom R 0 = true) :
    Calls Try.prog 9 #[.slice A l.length c, .agg #[.int .i64 x1, .int .i64 x2]] w fun e w' => e = .returned (.bool true) ∧ Below w.heap.size w w' := by
  have hml := hr.1
  obtain ⟨o1, o2⟩ := o
  have HR := Lib.hid hr
  have HM := Lib.hid hm
  have HM2 := Lib.hid hm2
  have HB := Lib.hid hb
  have HBL := Lib.hid hbl
  have HB2 := Lib.hid hb2
  have HB3 := Lib.hid hb3
  have HAP := Lib.hid hap
  have HLEN := Lib.hid hlen
  have hRn : R.length ≤ 201 := by omega
  clear hr hm hm2 hb hbl hb2 hb3 hap hlen
  go_enter Try.func9, Try.ntmps9
  go_wp2_with (fail)
  refine (merge_any A c l x1 x2 _ ?_ hc (by omega) _ _ _ _ HM.out).mono ?_
  · exact (HR.out.below (bl_alloc (Below.refl _ _) _)).more (by simp)
  rintro e w1 ⟨vg, vr, rfl, hg, hr, hb1⟩
  obtain ⟨A1, c1, rfl, hc1, hr1⟩ := own_reads hg
  obtain ⟨A2, c2, rfl, hc2, hr2⟩ := own_reads hr
  clear hg hr
  have q0 : w1.cell? ⟨w.heap.size, 0, none⟩ = some (.int .i64 x1) := (hb1.cell (p := ⟨w.heap.size, 0, none⟩) (by simp)).trans (by go_simp)
  have q1 : w1.cell? ⟨w.heap.size, 1, none⟩ = some (.int .i64 x2) := (hb1.cell (p := ⟨w.heap.size, 1, none⟩) (by simp)).trans (by go_simp)
  have hz : w.heap.size < w1.heap.size := by have := hb1.size; simp at this; omega
  go_wp2_with (fail)
  refine (merge_any A2 c2 R x1 x2 _ ?_ hc2 (by omega) _ _ _ _ HM2.out).mono ?_
  · exact (hr2.below (bl_alloc (Below.refl _ _) _)).more (by simp)
  rintro e w2 ⟨vg, vr, rfl, hg, hr, hb2⟩
  obtain ⟨A3, c3, rfl, hc3, hr3⟩ := own_reads hg
  obtain ⟨A4, c4, rfl, hc4, hr4⟩ := own_reads hr
  clear hg hr
  have hz2 : w1.heap.size < w2.heap.size := by have := hb2.size; simp at this; omega
  have q0 := (hb2.cell (p := ⟨w.heap.size, 0, none⟩) (by simp; omega)).trans ((World.cell?_alloc_past _ _ _ (by first | omega | (simp; omega))).trans q0)
  have q1 := (hb2.cell (p := ⟨w.heap.size, 1, none⟩) (by simp; omega)).trans ((World.cell?_alloc_past _ _ _ (by first | omega | (simp; omega))).trans q1)
  have p0 : w2.cell? ⟨w1.heap.size, 0, none⟩ = some (.int .i64 o1) := (hb2.cell (p := ⟨w1.heap.size, 0, none⟩) (by simp)).trans (by go_simp)
  have p1 : w2.cell? ⟨w1.heap.size, 1, none⟩ = some (.int .i64 o2) := (hb2.cell (p := ⟨w1.heap.size, 1, none⟩) (by simp)).trans (by go_simp)
  obtain ⟨b3, f3, rfl, hl3, g31, g32⟩ := hr3.at_ (k := 0) (by simp)
  simp at g31 g32
  clear hr3
  have hr2 := hr2.below (w' := w2) (bl_then (bl_alloc (Below.refl _ _) _) hb2)
  have hrl := HR.out.below (w' := w2) (bl_then (bl_alloc (bl_then (bl_alloc (Below.refl _ _) _) hb1) _) hb2)
  simp only [List.length_cons, List.length_nil]
  go_wp2_with (fail)
  have e0 := ext_cell (w := w2.alloc (Obj.cells #[Value.int IntKind.i64 o1, Value.int IntKind.i64 o2] 33)) (p := ⟨w2.heap.size, 0, none⟩) (v := .int .i64 o1) (by go_simp)
  have e1 := ext_cell (w := w2.alloc (Obj.cells #[Value.int IntKind.i64 o1, Value.int IntKind.i64 o2] 33)) (p := ⟨w2.heap.size, 1, none⟩) (v := .int .i64 o2) (by go_simp)
  have e2 := ext_cell (w := w2.alloc (Obj.cells #[Value.int IntKind.i64 o1, Value.int IntKind.i64 o2] 33)) (p := ⟨w1.heap.size, 0, none⟩) (v := .int .i64 o1) (by go_simp)
  have e3 := ext_cell (w := w2.alloc (Obj.cells #[Value.int IntKind.i64 o1, Value.int IntKind.i64 o2] 33)) (p := ⟨w1.heap.size, 1, none⟩) (v := .int .i64 o2) (by go_simp)
  have e4 := ext_cell (w := w2.alloc (Obj.cells #[Value.int IntKind.i64 o1, Value.int IntKind.i64 o2] 33)) (p := ⟨b3, f3, none⟩) (v := .int .i64 o1) (by go_simp)
  have e5 := ext_cell (w := w2.alloc (Obj.cells #[Value.int IntKind.i64 o1, Value.int IntKind.i64 o2] 33)) (p := ⟨b3, f3 + 1, none⟩) (v := .int .i64 o2) (by go_simp)
  have HC2 : Hid (∀ x : Ext (w2.alloc (Obj.cells #[Value.int IntKind.i64 o1, Value.int IntKind.i64 o2] 33)), Kd.C k33 x.val A2 (R.map toS).length (R.map toS)) := Lib.hid fun x => C_of_RdW (hr2.below ((bl_then (bl_alloc (Below.refl _ _) _) x.bl).mono (by omega)))
  have HC4 : Hid (∀ x : Ext (w2.alloc (Obj.cells #[Value.int IntKind.i64 o1, Value.int IntKind.i64 o2] 33)), Kd.C k33 x.val A4 (R.map toS).length (R.map toS)) := Lib.hid fun x => C_of_RdW (hr4.below (bl_then (bl_alloc (Below.refl _ _) _) x.bl))
  refine wp_region_ext (by kernel_rfl) (by kernel_rfl) ?_
  repeat (go_big_quiet_step ((go_at_call 14; exact ext_calls (same_two _ _ _ _ R R rfl _ (HC4.out _) hc4 (HC2.out _) hc2))))
  refine wpQuiet_nil ?_
  rintro w4 ⟨⟨_, hb4⟩, rfl⟩
  clear e0 e1 e2 e3 e4 e5 HC2 HC4
  have q0 := (hb4.cell (p := ⟨w.heap.size, 0, none⟩) (by simp; omega)).trans ((World.cell?_alloc_past _ _ _ (by first | omega | (simp; omega))).trans q0)
  have q1 := (hb4.cell (p := ⟨w.heap.size, 1, none⟩) (by simp; omega)).trans ((World.cell?_alloc_past _ _ _ (by first | omega | (simp; omega))).trans q1)
  have p0 := (hb4.cell (p := ⟨w1.heap.size, 0, none⟩) (by simp; omega)).trans ((World.cell?_alloc_past _ _ _ (by first | omega | (simp; omega))).trans p0)
  have p1 := (hb4.cell (p := ⟨w1.heap.size, 1, none⟩) (by simp; omega)).trans ((World.cell?_alloc_past _ _ _ (by first | omega | (simp; omega))).trans p1)
  have hz4 : w2.heap.size < w4.heap.size := by have := hb4.size; simp at this; omega
  have hb24 : Below w2.heap.size w2 w4 := bl_then (bl_alloc (Below.refl _ _) _) hb4
  have hr2 := hr2.below (hb24.mono (by omega))
  have hrl := hrl.below (hb24.mono (by omega))
  have hbw : Below w.heap.size w w4 := bl_then (bl_then (bl_alloc (bl_then (bl_alloc (Below.refl _ _) _) hb1) _) hb2) hb24
  clear hb4 hb24 hb1 hb2 hr1 hr4 g31 g32
  go_wp2_with (fail)
  refine (inside_any A c l x1 x2 b _ (C_of_RdW hrl) hc HB.out).mono ?_
  rintro e w5 ⟨rfl, hb5⟩
  have q0 := (hb5.cell (p := ⟨w.heap.size, 0, none⟩) (by simp; omega)).trans q0
  have q1 := (hb5.cell (p := ⟨w.heap.size, 1, none⟩) (by simp; omega)).trans q1
  have p0 := (hb5.cell (p := ⟨w1.heap.size, 0, none⟩) (by simp; omega)).trans p0
  have p1 := (hb5.cell (p := ⟨w1.heap.size, 1, none⟩) (by simp; omega)).trans p1
  have hz5 : w2.heap.size < w5.heap.size := by have := hb5.size; omega
  have hr2 := hr2.below (hb5.mono (by omega))
  have hrl := hrl.below (hb5.mono (by omega))
  have hbw := bl_then hbw hb5
  clear hb5
  cases b
  · go_wp2_with (fail)
    refine (inside_any _ _ R x1 x2 true _ (C_of_RdW hr2) hc2 HB2.out).mono ?_
    rintro e w6 ⟨rfl, hb6⟩
    have q0 := (hb6.cell (p := ⟨w.heap.size, 0, none⟩) (by simp; omega)).trans q0
    have q1 := (hb6.cell (p := ⟨w.heap.size, 1, none⟩) (by simp; omega)).trans q1
    have p0 := (hb6.cell (p := ⟨w1.heap.size, 0, none⟩) (by simp; omega)).trans p0
    have p1 := (hb6.cell (p := ⟨w1.heap.size, 1, none⟩) (by simp; omega)).trans p1
    have hz6 : w2.heap.size < w6.heap.size := by have := hb6.size; omega
    have hr2 := hr2.below (hb6.mono (by omega))
    have hbw := bl_then hbw hb6
    clear hb6
    go_wp2_with (fail)
    refine (inside_any _ _ R o1 o2 true _ (C_of_RdW hr2) hc2 HB3.out).mono ?_
    rintro e w7 ⟨rfl, hb7⟩
    have q0 := (hb7.cell (p := ⟨w.heap.size, 0, none⟩) (by simp; omega)).trans q0
    have q1 := (hb7.cell (p := ⟨w.heap.size, 1, none⟩) (by simp; omega)).trans q1
    have p0 := (hb7.cell (p := ⟨w1.heap.size, 0, none⟩) (by simp; omega)).trans p0
    have p1 := (hb7.cell (p := ⟨w1.heap.size, 1, none⟩) (by simp; omega)).trans p1
    have hz7 : w2.heap.size < w7.heap.size := by have := hb7.size; omega
    have hr2 := hr2.below (hb7.mono (by omega))
    have hbw := bl_then hbw hb7
    clear hb7
    have hg : ((R.length : Int) == wrap64 (wrap64 ((l.length : Int) - (G.length : Int)) + 1)) = true := by have := HLEN.out; unfold wrap64; simp; omega
    go_wp2_with (fail)
    refine (apart_any _ _ R _ (hr2.more (by omega)) hc2 true HAP.out).mono ?_
    rintro e w8 ⟨rfl, hb8⟩
    have hbw := bl_then hbw hb8
    clear hb8
    go_wp2_with (fail)
    refine (awake_any _).mono ?_
    rintro e w9 ⟨rfl, hb9⟩
    have hbw := bl_then hbw hb9
    clear hb9
    go_wp2
    go_ret
    exact ⟨rfl, hbw⟩
  · go_wp2_with (fail)
    refine (same_two _ _ _ _ R l (HBL.out (by first | exact rfl | exact trivial)) _ (C_of_RdW hr2) hc2 (C_of_RdW hrl) hc).mono ?_
    rintro e wq ⟨rfl, hbq⟩
    have q0 := (hbq.cell (p := ⟨w.heap.size, 0, none⟩) (by simp; omega)).trans q0
    have q1 := (hbq.cell (p := ⟨w.heap.size, 1, none⟩) (by simp; omega)).trans q1
    have p0 := (hbq.cell (p := ⟨w1.heap.size, 0, none⟩) (by simp; omega)).trans p0
    have p1 := (hbq.cell (p := ⟨w1.heap.size, 1, none⟩) (by simp; omega)).trans p1
    have hzq : w2.heap.size < wq.heap.size := by have := hbq.size; omega
    have hr2 := hr2.below (hbq.mono (by omega))
    have hbw := bl_then hbw hbq
    clear hbq
    go_wp2_with (fail)
    refine (inside_any _ _ R x1 x2 true _ (C_of_RdW hr2) hc2 HB2.out).mono ?_
    rintro e w6 ⟨rfl, hb6⟩
    have q0 := (hb6.cell (p := ⟨w.heap.size, 0, none⟩) (by simp; omega)).trans q0
    have q1 := (hb6.cell (p := ⟨w.heap.size, 1, none⟩) (by simp; omega)).trans q1
    have p0 := (hb6.cell (p := ⟨w1.heap.size, 0, none⟩) (by simp; omega)).trans p0
    have p1 := (hb6.cell (p := ⟨w1.heap.size, 1, none⟩) (by simp; omega)).trans p1
    have hz6 : w2.heap.size < w6.heap.size := by have := hb6.size; omega
    have hr2 := hr2.below (hb6.mono (by omega))
    have hbw := bl_then hbw hb6
    clear hb6
    go_wp2_with (fail)
    refine (inside_any _ _ R o1 o2 true _ (C_of_RdW hr2) hc2 HB3.out).mono ?_
    rintro e w7 ⟨rfl, hb7⟩
    have q0 := (hb7.cell (p := ⟨w.heap.size, 0, none⟩) (by simp; omega)).trans q0
    have q1 := (hb7.cell (p := ⟨w.heap.size, 1, none⟩) (by simp; omega)).trans q1
    have p0 := (hb7.cell (p := ⟨w1.heap.size, 0, none⟩) (by simp; omega)).trans p0
    have p1 := (hb7.cell (p := ⟨w1.heap.size, 1, none⟩) (by simp; omega)).trans p1
    have hz7 : w2.heap.size < w7.heap.size := by have := hb7.size; omega
    have hr2 := hr2.below (hb7.mono (by omega))
    have hbw := bl_then hbw hb7
    clear hb7
    have hg : ((R.length : Int) == wrap64 (wrap64 ((l.length : Int) - (G.length : Int)) + 1)) = true := by have := HLEN.out; unfold wrap64; simp; omega
    go_wp2_with (fail)
    refine (apart_any _ _ R _ (hr2.more (by omega)) hc2 true HAP.out).mono ?_
    rintro e w8 ⟨rfl, hb8⟩
    have hbw := bl_then hbw hb8
    clear hb8
    go_wp2_with (fail)
    refine (awake_any _).mono ?_
    rintro e w9 ⟨rfl, hb9⟩
    have hbw := bl_then hbw hb9
    clear hb9
    go_wp2
    go_ret
    exact ⟨rfl, hbw⟩
theorem inside_iff {l : List (Int × Int)} {x : Int × Int} : insideB l x = true ↔ ∃ a ∈ l, a.1 ≤ x.1 ∧ x.2 ≤ a.2 := by
  simp only [insideB, List.any_eq_true, Bool.and_eq_true, decide_eq_true_eq]
theorem within_walk (A : Option Addr) (c : Nat) (l : List (Int × Int)) (x1 x2 : Int) (w : World) (hr : RdW w w.heap.size A l ∧ l.length ≤ c) (h1 : (Lit.int .i64 x1).wf = true) (h2 : (Lit.int .i64 x2).wf = true) :
    Calls Try.prog 9 #[.slice A l.length c, .agg #[.int .i64 x1, .int .i64 x2]] w fun e w' => e = .returned (.bool true) ∧ Below w.heap.size w w' := by
  by_cases hn : 200 < l.length
  · exact within_far A c l x1 x2 w hr.1 hn
  by_cases ha : apartFrom l 0 = true ∧ mayB (x1, x2) = true
  · obtain ⟨ha, hx⟩ := ha
    have h := (ap_iff l).1 ha
    have hR := rest_ap h hx
    have hRa := (ap_iff _).2 hR
    have ho := oneOk (x1, x2) l
    have hm := one_mem h hx
    refine within_yes A c l x1 x2 w hr.1 hr.2 (by omega) (oneF (x1, x2) l) (goneF (x1, x2) l) (restL (oneF (x1, x2) l) l) ?_ ?_ _ rfl ?_ ?_ ?_ (rest_len h hx) hRa
    · unfold mergeV; rw [ha, hx]; rfl
    · unfold mergeV; rw [hRa, hx, one_again h hx, gone_again h hx, rest_again h hx]; rfl
    · exact fun hb => rest_in h hx (inside_iff.1 hb)
    · exact inside_iff.2 ⟨_, hm, ho.lo, ho.hi⟩
    · exact inside_iff.2 ⟨_, hm, Int.le_refl _, Int.le_refl _⟩
  · refine within_no A c l x1 x2 w hr.1 hr.2 (by omega) ?_
    unfold mergeV
    rw [if_neg]
    simpa using ha
end Go.Proofs.Ytgpmceimhfkncaa
