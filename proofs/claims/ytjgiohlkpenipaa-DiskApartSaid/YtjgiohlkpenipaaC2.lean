/- Contract of awake. Conditions: as each theorem states them. -/
import Derived.Test.YtjgiohlkpenipaaC1
namespace Go.Proofs.Ytjgiohlkpenipaa
open Go.RowKit Go.Maps
set_option linter.unusedVariables false
set_option linter.unusedSimpArgs false

theorem foot_type {w : World} {L : Lay} {s : DS} (h : DAt w L s) {b : Nat} {cs : Array Value} {t : TypeId} {fz : Nat × Nat} (hb : w.heap[b]? = some (Obj.cells cs t fz)) (h1 : t ≠ 60) (h2 : t ≠ 66) (h3 : t ≠ 68) : ¬ Foot L s b := by
  rintro (rfl | rfl | rfl | ⟨i, hi, rfl⟩ | hg)
  · rw [h.cells] at hb
    simp at hb
    exact h1 hb.2.1.symm
  · obtain ⟨D, hD⟩ := h.dirm
    obtain ⟨es, cl, h4⟩ := hD.heap
    rw [h4] at hb
    cases hb
  · obtain ⟨D, hD⟩ := h.keptm
    obtain ⟨es, cl, h4⟩ := hD.heap
    rw [h4] at hb
    cases hb
  · have h4 : w.heap[L.bk i]? = _ := (h.file i hi).1
    rw [h4] at hb
    simp at hb
    exact h2 hb.2.1.symm
  · obtain ⟨_, cur, h4⟩ := own_blk h.row hg
    rw [h4] at hb
    simp at hb
    exact h3 hb.2.1.symm
theorem iv0 : Inv (newS 10) := Inv.new (by omega)
theorem iv1 : Inv aw1 := iv0.create (by decide +kernel) _
theorem iv2 : Inv aw2 := iv1.dsync (by rw [aw_s.1]; omega)
theorem iv3 : Inv aw3 := iv2.append (by rw [aw_s.2.1]; omega) _ (by decide +kernel)
theorem iv4 : Inv aw4 := iv3.crash _
theorem okA : okN bA := by unfold okN; decide +kernel
set_option maxRecDepth 100000 in
set_option maxHeartbeats 4000000 in
theorem awake_any (w : World) : Calls Try.prog 9 #[] w fun e w' => e = .returned (.bool true) ∧ Below w.heap.size w w' := by
  have HN := Lib.hid (new_dk 10 w (by omega))
  have hcr := @create_dk
  have HC := Lib.hid (fun w' d (h : Dk w' d (newS 10) w.heap.size) (hB : w.heap.size ≤ w'.heap.size) => create_dk h iv0 (by decide) hB okA)
  have HS := Lib.hid (fun w' d (h : Dk w' d aw1 w.heap.size) (hB : w.heap.size ≤ w'.heap.size) => syncdir_dk h iv1 (by rw [aw_s.1]; omega) hB)
  have HA := Lib.hid (fun w' d (h : Dk w' d aw2 w.heap.size) (hB : w.heap.size ≤ w'.heap.size) => append_dk (data := xyz) h iv2 (by rw [aw_s.2.1]; omega) hB okA (by decide +kernel))
  have HK := Lib.hid (fun w' d c (A : Option Addr) (h : Dk w' d aw3 w.heap.size) (hB : w.heap.size ≤ w'.heap.size) => crash_dk (cs := [0, 2]) (A := A) (c := c) h iv3 hB)
  have HRD := Lib.hid (fun w' d (h : Dk w' d aw4 w.heap.size) => read_dk h okA)
  have HL := Lib.hid (fun w' d (h : Dk w' d aw4 w.heap.size) (hB : w.heap.size ≤ w'.heap.size) => append_dk (data := nine) h iv4 (by rw [aw_s.2.2.2]; omega) hB okA (by decide +kernel))
  rw [aw_1] at HC
  rw [aw_2] at HS
  rw [aw_3] at HA
  rw [aw_4] at HRD
  rw [aw_5] at HL
  unfold bA xyz xy nine ptrV at *
  clear hcr
  go_enter Try.func9, Try.ntmps9
  go_wp2_with (fail)
  refine HN.out.mono ?_
  rintro r w1 ⟨d, rfl, hd1, hb1⟩
  have HD1 := Lib.hid hd1
  have HB1 := Lib.hid hb1
  clear hd1 hb1
  go_wp2_with (fail)
  refine (HC.out w1 d HD1.out HB1.out.size).mono ?_
  rintro r w2 ⟨rfl, hd2, hb2⟩
  have HD2 := Lib.hid hd2
  have HB2 := Lib.hid (HB1.out.trans (hb2.mono (Nat.le_refl _)))
  clear hd2 hb2
  go_wp2_with (fail)
  refine (HS.out w2 d HD2.out HB2.out.size).mono ?_
  rintro r w3 ⟨rfl, hd3, hb3⟩
  have HD3 := Lib.hid hd3
  have HB3 := Lib.hid (HB2.out.trans (hb3.mono (Nat.le_refl _)))
  clear hd3 hb3
  go_wp2_with (fail)
  refine (HA.out w3 d HD3.out HB3.out.size).mono ?_
  rintro r w4 ⟨rfl, hd4, hb4⟩
  have HD4 := Lib.hid hd4
  have HB4 := Lib.hid (HB3.out.trans (hb4.mono (Nat.le_refl _)))
  clear hd4 hb4
  go_wp2_with (fail)
  have hnw : (w4.alloc (Obj.cells #[.int .i64 0, .int .i64 2] 3)).heap[w4.heap.size]? = some (Obj.cells #[.int .i64 0, .int .i64 2] 3) := new_heap w4 _
  have hbW : Below w4.heap.size w4 (w4.alloc (Obj.cells #[.int .i64 0, .int .i64 2] 3)) := bl_alloc (Below.refl _ _) _
  have hrd : RdC (w4.alloc (Obj.cells #[.int .i64 0, .int .i64 2] 3)) (some ⟨w4.heap.size, 0, none⟩) [0, 2] := ⟨fun _ => ⟨w4.heap.size, 0, rfl, by simp, fun i hi => by
    rw [cell_of hnw]
    match i, hi with
    | 0, _ => rfl
    | 1, _ => rfl⟩, fun x hx => by
    simp at hx
    rcases hx with rfl | rfl <;> decide⟩
  have HKK := Lib.hid (HK.out (w4.alloc (Obj.cells #[.int .i64 0, .int .i64 2] 3)) d 2 (some ⟨w4.heap.size, 0, none⟩) (HD4.out.below hbW) (Nat.le_trans HB4.out.size hbW.size) hrd (Nat.le_refl _) (fun _ a ha => by
    cases ha
    exact ⟨by simp, fun L _ hL => foot_type hL hnw (by decide) (by decide) (by decide)⟩))
  have HBW := Lib.hid (HB4.out.trans (hbW.mono HB4.out.size))
  clear hnw hbW hrd
  generalize (w4.alloc (Obj.cells #[.int .i64 0, .int .i64 2] 3)) = w5 at *
  refine HKK.out.mono ?_
  rintro r w6 ⟨rfl, hd6, hb6⟩
  have HD6 := Lib.hid hd6
  have HB6 := Lib.hid (HBW.out.trans (hb6.mono (Nat.le_refl _)))
  clear hd6 hb6
  go_wp2_with (fail)
  refine (HRD.out w6 d HD6.out).mono ?_
  rintro r w' ⟨rfl, rfl⟩
  go_wp2_with (fail)
  refine (HL.out w6 d HD6.out HB6.out.size).mono ?_
  rintro r w7 ⟨rfl, _, hb7⟩
  go_wp2_with (fail)
  go_ret
  exact ⟨rfl, HB6.out.trans (hb7.mono (Nat.le_refl _))⟩
end Go.Proofs.Ytjgiohlkpenipaa
