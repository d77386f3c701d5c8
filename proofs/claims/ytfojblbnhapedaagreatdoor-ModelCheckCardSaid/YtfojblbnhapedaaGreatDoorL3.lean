/- The reference: the check of a job, whole. Conditions: as each theorem states them. -/
import Derived.Test.YtfojblbnhapedaaGreatDoorL2
namespace Go.Proofs.YtfojblbnhapedaaGreatDoor
open Go.RowKit Go.Maps
set_option linter.unusedVariables false
set_option linter.unusedSimpArgs false

set_option maxRecDepth 100000 in
set_option maxHeartbeats 8000000 in
theorem rjob_yes (gr so bo la : Int) (A : Option Addr) (l : List JOp) (m c : Nat) (w : World) (hm : l.length = m) (hA : RdP w A l) (hc : m ≤ c) (hcb : c ≤ 9223372036854775807)
    (h0 : ¬ gr < 1) (h1 : ¬ 64 < gr) (h2 : ¬ so < 1) (h3 : ¬ 16 < so) (h4 : ¬ bo < 0) (h5 : ¬ 1099511627776 < bo) (h6 : ¬ la < 0) (h7 : ¬ 1099511627776 < la) (h8 : ¬ (8 : Int) < (m : Int)) :
    Calls Tryz.prog 36 #[.agg #[.int .i64 gr, .int .i64 so, .int .i64 bo, .int .i64 la, .slice A m c]] w fun e w' => e = .returned (.int .i64 (if opsP l m then 0 else 2)) ∧ Below w.heap.size w w' := by
  have hb0 := bl_alloc (Below.refl w.heap.size w) (Obj.cells #[.int .i64 gr, .int .i64 so, .int .i64 bo, .int .i64 la, .slice A m c] 24)
  have HB0 := Lib.hid hb0
  have HX := Lib.hid (heap_alloc_new w (Obj.cells #[.int .i64 gr, .int .i64 so, .int .i64 bo, .int .i64 la, .slice A m c] 24))
  have HA := Lib.hid (hA.below hb0)
  have HM := Lib.hid hm
  have HO := Lib.hid hA.2
  clear hm hA hb0
  obtain ⟨R, hR⟩ : ∃ R : Int, (if opsP l m then (0 : Int) else 2) = R := ⟨_, rfl⟩
  have HR := Lib.hid hR
  rw [hR]
  clear hR
  have hci : (m : Int) ≤ (c : Int) := by omega
  go_enter Tryz.func36, Tryz.ntmps36
  go_wp2_with (fail)
  generalize (w.alloc (Obj.cells #[.int .i64 gr, .int .i64 so, .int .i64 bo, .int .i64 la, .slice A m c] 24)) = W at *
  have hXl := (Array.getElem?_eq_some_iff.1 HX.out).1
  go_loopw [3] (fun vi wr => ∃ i : Nat, i ≤ m ∧ vi = .int .i64 i ∧ opsP l i ∧ Below W.heap.size W wr) (fun i _ => m - (intOf i).toNat)
  case atStart => exact ⟨0, Nat.zero_le _, rfl, trivial, Below.refl _ _⟩
  case round =>
    obtain ⟨i, hin, rfl, hop, hbl⟩ := hrel
    have HBL := Lib.hid hbl
    have HOP := Lib.hid hop
    have c4 := cell_of ((hbl.block _ hXl).trans HX.out) 4
    simp only [List.getElem?_toArray, List.getElem?_cons_zero, List.getElem?_cons_succ] at c4
    have hxr := Nat.lt_of_lt_of_le hXl hbl.size
    clear hbl hop
    by_cases hi : i < m
    case neg =>
      have hi1 : ¬ (i : Int) < (m : Int) := by omega
      have hie : i = m := by omega
      subst hie
      have HRR : Hid (R = 0) := Lib.hid (by rw [← HR.out, if_pos HOP.out])
      go_wp2_with (fail)
      go_ret
      exact ⟨by rw [HRR.out]; rfl, HB0.out.trans (HBL.out.mono HB0.out.size)⟩
    have hi0 : (0 : Int) ≤ (i : Int) := by omega
    have hi1 : (i : Int) < (m : Int) := by omega
    obtain ⟨b, off, rfl, hb, hcc⟩ := (HA.out.below HBL.out).1 (by rw [HM.out]; omega)
    have HCC := Lib.hid hcc
    have hil : i < l.length := by rw [HM.out]; exact hi
    obtain ⟨u0, u1, u2, u3, u4⟩ := hcc i hil
    have hom : l.getD i zeroP ∈ l := by rw [List.getD_eq_getElem?_getD, List.getElem?_eq_getElem hil]; exact List.getElem_mem _
    have HOK := Lib.hid (HO.out _ hom)
    obtain ⟨o, ho⟩ : ∃ o, l.getD i zeroP = o := ⟨_, rfl⟩
    rw [ho] at u0 u1 u2 u3 u4 HOK
    have HOI := Lib.hid ho
    clear hcc hom ho
    obtain ⟨nm, agg, k, s, ll⟩ := o
    dsimp only at u0 u1 u2 u3 u4 HOK
    have hba := bl_alloc (Below.refl wr.heap.size wr) (Obj.cells #[.string nm, .int .i64 agg, .int .i64 k, .int .i64 s, .int .i64 ll] 48)
    have HB1 := Lib.hid (HBL.out.trans (hba.mono HBL.out.size))
    have HNB := Lib.hid (heap_alloc_new wr (Obj.cells #[.string nm, .int .i64 agg, .int .i64 k, .int .i64 s, .int .i64 ll] 48))
    have HNM := Lib.hid (fun W' => rnamed_any nm W' HOK.out)
    have HCH := Lib.hid (fun W' => rcheck_any k s ll W')
    have HNO : Hid (¬ (mayP ⟨nm, agg, k, s, ll⟩ ∧ idxP (l.take i) nm 0 < 0) → R = 2) := Lib.hid (fun h => by
      rw [← HR.out, if_neg]
      intro hh
      have h2 := (opsP_le hh (show i + 1 ≤ m by omega)).2
      rw [HOI.out] at h2
      exact h h2)
    clear hba
    by_cases hn : jnamed nm
    case neg =>
      rw [decide_eq_false hn] at HNM
      have HRR : Hid (R = 2) := Lib.hid (HNO.out (fun h => hn h.1.1))
      clear hn
      go_wp2_with (fail)
      refine (HNM.out _).mono ?_
      rintro r w2 ⟨rfl, rfl⟩
      go_wp2_with (fail)
      go_ret
      exact ⟨by rw [HRR.out]; rfl, HB0.out.trans (HB1.out.mono HB0.out.size)⟩
    rw [decide_eq_true hn] at HNM
    have HN := Lib.hid hn
    clear hn
    by_cases ha1 : agg < 1
    · have HRR : Hid (R = 2) := Lib.hid (HNO.out (fun h => by have := h.1.2.1; dsimp only at this; omega))
      go_wp2_with (fail)
      refine (HNM.out _).mono ?_
      rintro r w2 ⟨rfl, rfl⟩
      go_wp2_with (fail)
      go_ret
      exact ⟨by rw [HRR.out]; rfl, HB0.out.trans (HB1.out.mono HB0.out.size)⟩
    by_cases ha2 : 8 < agg
    · have HRR : Hid (R = 2) := Lib.hid (HNO.out (fun h => by have := h.1.2.2.1; dsimp only at this; omega))
      go_wp2_with (fail)
      refine (HNM.out _).mono ?_
      rintro r w2 ⟨rfl, rfl⟩
      go_wp2_with (fail)
      go_ret
      exact ⟨by rw [HRR.out]; rfl, HB0.out.trans (HB1.out.mono HB0.out.size)⟩
    by_cases hck : chkV k s ll = 0
    case neg =>
      have hc2 : chkV k s ll = 2 := (chkV_or k s ll).resolve_left hck
      rw [hc2] at HCH
      have HRR : Hid (R = 2) := Lib.hid (HNO.out (fun h => hck h.1.2.2.2))
      clear hck hc2
      go_wp2_with (fail)
      refine (HNM.out _).mono ?_
      rintro r w2 ⟨rfl, rfl⟩
      go_wp2_with (fail)
      refine (HCH.out _).mono ?_
      rintro r w3 ⟨rfl, hb3⟩
      have HB3 := Lib.hid (HB1.out.trans (hb3.mono HB1.out.size))
      clear hb3
      go_wp2_with (fail)
      go_ret
      exact ⟨by rw [HRR.out]; rfl, HB0.out.trans (HB3.out.mono HB0.out.size)⟩
    rw [hck] at HCH
    have HMP : Hid (mayP ⟨nm, agg, k, s, ll⟩) := Lib.hid ⟨HN.out, by show (1 : Int) ≤ agg; omega, by show agg ≤ (8 : Int); omega, hck⟩
    clear hck
    go_wp2_with (fail)
    refine (HNM.out _).mono ?_
    rintro r w2 ⟨rfl, rfl⟩
    go_wp2_with (fail)
    refine (HCH.out _).mono ?_
    rintro r w3 ⟨rfl, hb3⟩
    have HB3 := Lib.hid (HB1.out.trans (hb3.mono HB1.out.size))
    have HC3 := Lib.hid (fun j (hj : j < l.length) => ((hb3.cell (p := ⟨b, off + j * 5, none⟩) (by simp; omega)).trans (World.cell?_alloc_lt wr _ _ hb)).trans (HCC.out j hj).1)
    have HN3 := Lib.hid ((hb3.block _ (by simp)).trans HNB.out)
    have hb3l : b < w3.heap.size := by have := hb3.size; simp at this; omega
    clear hb3 u0 u1 u2 u3 u4 c4 hxr
    go_wp2_with (fail)
    obtain ⟨W1, hW1⟩ : ∃ W1, W1 = wr := ⟨_, rfl⟩
    subst hW1
    go_loopw [5] (fun vk wr2 => ∃ q : Nat, q ≤ i ∧ vk = .int .i64 q ∧ (∀ j, j < q → (l.getD j zeroP).nm ≠ nm) ∧ Below w3.heap.size w3 wr2) (fun q _ => i - (intOf q).toNat)
    case atStart => exact ⟨0, Nat.zero_le _, rfl, fun j hj => absurd hj (Nat.not_lt_zero _), Below.refl _ _⟩
    case round =>
      obtain ⟨q, hqi, rfl, hne, hbq⟩ := hrel
      have HNE := Lib.hid hne
      have HBQ := Lib.hid hbq
      have HB4 := Lib.hid (HB3.out.trans (hbq.mono HB3.out.size))
      clear hne
      by_cases hq : q < i
      case neg =>
        have hqn : ¬ (q : Int) < (i : Int) := by omega
        have hqe : q = i := by omega
        subst hqe
        have HOP2 : Hid (opsP l (q + 1)) := Lib.hid ⟨HOP.out, by rw [HOI.out]; exact HMP.out, by
          rw [HOI.out, idx_neg]
          intro p hp
          obtain ⟨j, hj, rfl⟩ := List.mem_iff_getElem.1 hp
          rw [List.length_take] at hj
          have := HNE.out j (by omega)
          rw [List.getD_eq_getElem?_getD, List.getElem?_eq_getElem (by omega)] at this
          rw [List.getElem_take]
          exact this⟩
        clear hbq
        go_wp2_with (fail)
        exact ⟨⟨q + 1, by omega, by push_cast; rfl, HOP2.out, HB4.out⟩, by simp [intOf]; omega⟩
      have hq0 : (0 : Int) ≤ (q : Int) := by omega
      have hqi1 : (q : Int) < (i : Int) := by omega
      have hqm : (q : Int) < (m : Int) := by omega
      have hqc : (q : Int) ≤ (c : Int) := by omega
      have u0 := (hbq.cell (p := ⟨b, off + q * 5, none⟩) hb3l).trans (HC3.out q (by omega))
      have c4 := cell_of ((HB4.out.block _ hXl).trans HX.out) 4
      have x0 := cell_of ((hbq.block _ (Array.getElem?_eq_some_iff.1 HN3.out).1).trans HN3.out) 0
      simp only [List.getElem?_toArray, List.getElem?_cons_zero, List.getElem?_cons_succ] at c4 x0
      have hl1 : b < wr.heap.size := Nat.lt_of_lt_of_le hb3l hbq.size
      have hl2 : w.heap.size < wr.heap.size := Nat.lt_of_lt_of_le hXl HB4.out.size
      have hl3 : W1.heap.size < wr.heap.size := Nat.lt_of_lt_of_le (Array.getElem?_eq_some_iff.1 HN3.out).1 hbq.size
      obtain ⟨pn, hpn⟩ : ∃ pn, (l.getD q zeroP).nm = pn := ⟨_, rfl⟩
      rw [hpn] at u0
      have HPN := Lib.hid hpn
      clear hpn hbq
      by_cases he : pn = nm
      · have het : (pn.toList == nm.toList) = true := by subst he; simp
        have HRR : Hid (R = 2) := Lib.hid (HNO.out (fun h => by
          have hlt : q < (l.take i).length := by rw [List.length_take]; omega
          have hx := (idx_neg.1 h.2) _ (List.getElem_mem hlt)
          rw [List.getElem_take] at hx
          have := HPN.out
          rw [List.getD_eq_getElem?_getD, List.getElem?_eq_getElem (by omega)] at this
          exact hx (Eq.trans this he)))
        clear he
        go_wp2_with (fail)
        go_region
        go_wp2_with (fail)
        go_ret
        exact ⟨by rw [HRR.out]; rfl, HB0.out.trans ((HB4.out.trans ((Below.refl _ _).drew.mono HB4.out.size)).mono HB0.out.size)⟩
      · have het : (pn.toList == nm.toList) = false := tl_ne he
        have HE := Lib.hid he
        clear he
        go_wp2_with (fail)
        go_region
        go_wp2_with (fail)
        exact ⟨⟨q + 1, by omega, by push_cast; rfl, fun j hj => by
          rcases Nat.lt_or_ge j q with h | h
          · exact HNE.out j h
          · obtain rfl : j = q := by omega
            rw [HPN.out]
            exact HE.out, HBQ.out.trans ((Below.refl _ _).drew.mono HBQ.out.size)⟩, by simp [intOf]; omega⟩
theorem rjob_any (j : Jb) (w : World) (hA : RdP w j.A j.ops) (hc : j.ops.length ≤ j.c) (hcb : j.c ≤ 9223372036854775807) : Calls Tryz.prog 36 #[jbV j] w fun e w' => e = .returned (.int .i64 (if jobP j then 0 else 2)) ∧ Below w.heap.size w w' := by
  by_cases hh : headP j
  · obtain ⟨gr, so, bo, la, l, A, c⟩ := j
    have h := hh
    unfold headP at h
    unfold jbV
    dsimp only at *
    have e : (if jobP ⟨gr, so, bo, la, l, A, c⟩ then (0 : Int) else 2) = if opsP l l.length then 0 else 2 := by
      by_cases h1 : opsP l l.length
      · rw [if_pos h1, if_pos ⟨hh, h1⟩]
      · rw [if_neg h1, if_neg (fun h => h1 h.2)]
    rw [e]
    exact rjob_yes gr so bo la A l l.length c w rfl hA hc hcb (by omega) (by omega) (by omega) (by omega) (by omega) (by omega) (by omega) (by omega) (by omega)
  · rw [if_neg (fun h => hh h.1)]
    exact rjob_no j w (by omega) hh
end Go.Proofs.YtfojblbnhapedaaGreatDoor
