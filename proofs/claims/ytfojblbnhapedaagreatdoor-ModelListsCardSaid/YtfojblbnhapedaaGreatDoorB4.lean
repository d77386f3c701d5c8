/- Contract of job.Check, whole. Conditions: as each theorem states them. -/
import Derived.Test.YtfojblbnhapedaaGreatDoorB3
namespace Go.Proofs.YtfojblbnhapedaaGreatDoor
open Go.RowKit
set_option linter.unusedVariables false
set_option linter.unusedSimpArgs false

set_option maxRecDepth 100000 in
set_option maxHeartbeats 8000000 in
theorem jcheck_yes (groups sources bound late : Int) (A : Option Addr) (l : List JOp) (m c : Nat) (w : World) (hm : l.length = m) (hA : RdP w A l) (hc : m ≤ c) (hcb : c ≤ 9223372036854775807) (h0 : 1 ≤ groups) (h1 : groups ≤ 64) (h2 : 1 ≤ sources) (h3 : sources ≤ 16) (h4 : 0 ≤ bound) (h5 : bound ≤ 1099511627776) (h6 : 0 ≤ late) (h7 : late ≤ 1099511627776) (h8 : m ≤ 8) :
    Calls Tryz.prog 33 #[.agg #[.int .i64 groups, .int .i64 sources, .int .i64 bound, .int .i64 late, .slice A m c]] w fun e w' => e = .returned (.int .i64 (if opsP l m then 0 else 2)) ∧ Below w.heap.size w w' := by
  have hb0 := bl_alloc (Below.refl w.heap.size w) (Obj.cells #[.int .i64 groups, .int .i64 sources, .int .i64 bound, .int .i64 late, .slice A m c] 24)
  have HB0 := Lib.hid hb0
  have HX := Lib.hid (heap_alloc_new w (Obj.cells #[.int .i64 groups, .int .i64 sources, .int .i64 bound, .int .i64 late, .slice A m c] 24))
  have HA := Lib.hid (hA.below hb0)
  have HM := Lib.hid hm
  have HO := Lib.hid hA.2
  clear hm hA hb0
  obtain ⟨R, hR⟩ : ∃ R : Int, (if opsP l m then (0 : Int) else 2) = R := ⟨_, rfl⟩
  have HR := Lib.hid hR
  rw [hR]
  clear hR
  have h8i : (m : Int) ≤ 8 := by omega
  have hci : (m : Int) ≤ (c : Int) := by omega
  go_enter Tryz.func33, Tryz.ntmps33
  go_wp2_with (fail)
  generalize (w.alloc (Obj.cells #[.int .i64 groups, .int .i64 sources, .int .i64 bound, .int .i64 late, .slice A m c] 24)) = W at *
  have hXl := (Array.getElem?_eq_some_iff.1 HX.out).1
  go_loopw [3, 53] (fun vo vi wr => ∃ i : Nat, i ≤ m ∧ vi = .int .i64 i ∧ vo = .bool (decide (opsP l i)) ∧ Below W.heap.size W wr) (fun _ i _ => m - (intOf i).toNat)
  case atStart => exact ⟨0, Nat.zero_le _, rfl, by rw [decide_eq_true (show opsP l 0 from trivial)], Below.refl _ _⟩
  case round =>
    obtain ⟨i, hin, rfl, rfl, hbl⟩ := hrel
    have HBL := Lib.hid hbl
    have c4 := cell_of ((hbl.block _ hXl).trans HX.out) 4
    simp only [List.getElem?_toArray, List.getElem?_cons_zero, List.getElem?_cons_succ] at c4
    have hxr := Nat.lt_of_lt_of_le hXl hbl.size
    clear hbl
    by_cases hi : i < m
    · have hi0 : (0 : Int) ≤ (i : Int) := by omega
      have hi1 : (i : Int) < (m : Int) := by omega
      have hic : (i : Int) ≤ (c : Int) := by omega
      obtain ⟨b, off, rfl, hb, hcc⟩ := (HA.out.below HBL.out).1 (by rw [HM.out]; omega)
      have hil : i < l.length := by rw [HM.out]; exact hi
      obtain ⟨u0, u1, u2, u3, u4⟩ := hcc i hil
      have hom : l.getD i zeroP ∈ l := by rw [List.getD_eq_getElem?_getD, List.getElem?_eq_getElem hil]; exact List.getElem_mem _
      have HOK := Lib.hid (HO.out _ hom)
      obtain ⟨o, ho⟩ : ∃ o, l.getD i zeroP = o := ⟨_, rfl⟩
      rw [ho] at u0 u1 u2 u3 u4 HOK
      have HOI := Lib.hid ho
      clear hcc hom ho
      obtain ⟨nm, agg, k, s, ll⟩ := o
      dsimp only at u0 u1 u2 u3 u4 HOK
      have HB1 := Lib.hid (HBL.out.trans ((bl_alloc (Below.refl wr.heap.size wr) (Obj.cells #[.string nm, .int .i64 agg, .int .i64 k, .int .i64 s, .int .i64 ll] 48)).mono HBL.out.size))
      have HNB := Lib.hid (heap_alloc_new wr (Obj.cells #[.string nm, .int .i64 agg, .int .i64 k, .int .i64 s, .int .i64 ll] 48))
      have HT := Lib.hid ((HA.out.below HB1.out).take i (by omega))
      have HLT : Hid ((l.take i).length = i) := Lib.hid (by rw [List.length_take, HM.out]; omega)
      by_cases ho : opsP l i
      · rw [decide_eq_true ho]
        by_cases hm : mayP ⟨nm, agg, k, s, ll⟩
        · have HMA := Lib.hid (fun W' => may_any ⟨nm, agg, k, s, ll⟩ W' HOK.out)
          rw [decide_eq_true hm] at HMA
          have hq0 : decide (opsP l (i + 1)) = !decide (0 ≤ idxP (l.take i) nm 0) := by
            have e : opsP l (i + 1) ↔ idxP (l.take i) nm 0 < 0 := by
              unfold opsP
              rw [HOI.out]
              exact ⟨fun h => h.2.2, fun h => ⟨ho, hm, h⟩⟩
            rw [Bool.eq_iff_iff]
            simp only [decide_eq_true_eq, Bool.not_eq_true', decide_eq_false_iff_not]
            rw [e]
            omega
          have HQ := Lib.hid hq0
          have HCT := Lib.hid (fun W' (kk : Below (wr.alloc (Obj.cells #[.string nm, .int .i64 agg, .int .i64 k, .int .i64 s, .int .i64 ll] 48)).heap.size (wr.alloc (Obj.cells #[.string nm, .int .i64 agg, .int .i64 k, .int .i64 s, .int .i64 ll] 48)) W') => contains_any (some ⟨b, off, none⟩) c (l.take i) wr.heap.size nm W' (HT.out.below kk) (by rw [HLT.out]; omega) (cell_of ((kk.block _ (by simp)).trans HNB.out) 0))
          rw [HLT.out] at HCT
          unfold opV at HMA
          obtain ⟨q, hq⟩ : ∃ q, idxP (l.take i) nm 0 = q := ⟨_, rfl⟩
          rw [hq] at HQ HCT
          clear ho hm hq0 hq
          go_wp2_with (fail)
          refine (HMA.out _).mono ?_
          rintro r w2 ⟨rfl, hb2⟩
          have HB2 := Lib.hid (HB1.out.trans (hb2.mono HB1.out.size))
          have HCT2 := Lib.hid (HCT.out w2 hb2)
          have c42 : w2.cell? ⟨w.heap.size, 4, none⟩ = some (.slice (some ⟨b, off, none⟩) m c) := (hb2.cell (p := ⟨w.heap.size, 4, none⟩) (by simp; omega)).trans ((World.cell?_alloc_lt wr _ _ hxr).trans c4)
          have hxr2 : w.heap.size < w2.heap.size := by have := hb2.size; simp at this; omega
          clear hb2 HCT HMA
          go_wp2_with (fail)
          refine HCT2.out.mono ?_
          rintro r w3 ⟨rfl, hb3⟩
          have HB3 := Lib.hid (HB2.out.trans (hb3.mono HB2.out.size))
          clear hb3
          go_wp2_with (fail)
          exact ⟨⟨i + 1, by omega, by push_cast; rfl, by rw [HQ.out], HB3.out⟩, by simp [intOf]; omega⟩
        · have HMA := Lib.hid (fun W' => may_any ⟨nm, agg, k, s, ll⟩ W' HOK.out)
          rw [decide_eq_false hm] at HMA
          have hq0 : decide (opsP l (i + 1)) = false := decide_eq_false (fun h => hm (by
            have h := h.2.1
            rw [HOI.out] at h
            exact h))
          have HQ := Lib.hid hq0
          unfold opV at HMA
          clear ho hm hq0
          go_wp2_with (fail)
          refine (HMA.out _).mono ?_
          rintro r w2 ⟨rfl, hb2⟩
          have HB2 := Lib.hid (HB1.out.trans (hb2.mono HB1.out.size))
          clear hb2
          go_wp2_with (fail)
          exact ⟨⟨i + 1, by omega, by push_cast; rfl, by rw [HQ.out], HB2.out⟩, by simp [intOf]; omega⟩
      · rw [decide_eq_false ho]
        have HQ : Hid (decide (opsP l (i + 1)) = false) := Lib.hid (decide_eq_false (fun h => ho h.1))
        clear ho
        go_wp2_with (fail)
        exact ⟨⟨i + 1, by omega, by push_cast; rfl, by rw [HQ.out], HB1.out⟩, by simp [intOf]; omega⟩
    · have hi1 : ¬ (i : Int) < (m : Int) := by omega
      have hie : i = m := by omega
      subst hie
      by_cases ho : opsP l i
      · rw [decide_eq_true ho]
        have HRR : Hid (R = 0) := Lib.hid (by rw [← HR.out, if_pos ho])
        clear ho
        go_wp2_with (fail)
        go_ret
        exact ⟨by rw [HRR.out]; rfl, HB0.out.trans (HBL.out.mono HB0.out.size)⟩
      · rw [decide_eq_false ho]
        have HRR : Hid (R = 2) := Lib.hid (by rw [← HR.out, if_neg ho])
        clear ho
        go_wp2_with (fail)
        go_ret
        exact ⟨by rw [HRR.out]; rfl, HB0.out.trans (HBL.out.mono HB0.out.size)⟩
theorem jcheck_any (j : Jb) (w : World) (hA : RdP w j.A j.ops) (hc : j.ops.length ≤ j.c) (hcb : j.c ≤ 9223372036854775807) : Calls Tryz.prog 33 #[jbV j] w fun e w' => e = .returned (.int .i64 (if jobP j then 0 else 2)) ∧ Below w.heap.size w w' := by
  obtain ⟨gr, so, bo, la, l, A, c⟩ := j
  unfold jbV
  dsimp only at *
  by_cases h0 : 1 ≤ gr
  case neg =>
    rw [if_neg (show ¬ jobP ⟨gr, so, bo, la, l, A, c⟩ from fun h => h0 h.1.1)]
    exact jcheck_no0 gr so bo la A l _ c w rfl hA hc hcb h0
  by_cases h1 : gr ≤ 64
  case neg =>
    rw [if_neg (show ¬ jobP ⟨gr, so, bo, la, l, A, c⟩ from fun h => h1 h.1.2.1)]
    exact jcheck_no1 gr so bo la A l _ c w rfl hA hc hcb h0 h1
  by_cases h2 : 1 ≤ so
  case neg =>
    rw [if_neg (show ¬ jobP ⟨gr, so, bo, la, l, A, c⟩ from fun h => h2 h.1.2.2.1)]
    exact jcheck_no2 gr so bo la A l _ c w rfl hA hc hcb h0 h1 h2
  by_cases h3 : so ≤ 16
  case neg =>
    rw [if_neg (show ¬ jobP ⟨gr, so, bo, la, l, A, c⟩ from fun h => h3 h.1.2.2.2.1)]
    exact jcheck_no3 gr so bo la A l _ c w rfl hA hc hcb h0 h1 h2 h3
  by_cases h4 : 0 ≤ bo
  case neg =>
    rw [if_neg (show ¬ jobP ⟨gr, so, bo, la, l, A, c⟩ from fun h => h4 h.1.2.2.2.2.1)]
    exact jcheck_no4 gr so bo la A l _ c w rfl hA hc hcb h0 h1 h2 h3 h4
  by_cases h5 : bo ≤ 1099511627776
  case neg =>
    rw [if_neg (show ¬ jobP ⟨gr, so, bo, la, l, A, c⟩ from fun h => h5 h.1.2.2.2.2.2.1)]
    exact jcheck_no5 gr so bo la A l _ c w rfl hA hc hcb h0 h1 h2 h3 h4 h5
  by_cases h6 : 0 ≤ la
  case neg =>
    rw [if_neg (show ¬ jobP ⟨gr, so, bo, la, l, A, c⟩ from fun h => h6 h.1.2.2.2.2.2.2.1)]
    exact jcheck_no6 gr so bo la A l _ c w rfl hA hc hcb h0 h1 h2 h3 h4 h5 h6
  by_cases h7 : la ≤ 1099511627776
  case neg =>
    rw [if_neg (show ¬ jobP ⟨gr, so, bo, la, l, A, c⟩ from fun h => h7 h.1.2.2.2.2.2.2.2.1)]
    exact jcheck_no7 gr so bo la A l _ c w rfl hA hc hcb h0 h1 h2 h3 h4 h5 h6 h7
  by_cases h8 : l.length ≤ 8
  case neg =>
    rw [if_neg (show ¬ jobP ⟨gr, so, bo, la, l, A, c⟩ from fun h => h8 h.1.2.2.2.2.2.2.2.2)]
    exact jcheck_no8 gr so bo la A l _ c w rfl hA hc hcb h0 h1 h2 h3 h4 h5 h6 h7 h8
  have h := jcheck_yes gr so bo la A l _ c w rfl hA hc hcb h0 h1 h2 h3 h4 h5 h6 h7 h8
  by_cases ho : opsP l l.length
  · rw [if_pos (show jobP ⟨gr, so, bo, la, l, A, c⟩ from ⟨⟨h0, h1, h2, h3, h4, h5, h6, h7, h8⟩, ho⟩)]
    rw [if_pos ho] at h
    exact h
  · rw [if_neg (show ¬ jobP ⟨gr, so, bo, la, l, A, c⟩ from fun h => ho h.2)]
    rw [if_neg ho] at h
    exact h
end Go.Proofs.YtfojblbnhapedaaGreatDoor
