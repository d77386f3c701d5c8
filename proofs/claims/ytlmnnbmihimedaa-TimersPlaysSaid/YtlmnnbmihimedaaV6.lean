/- The walk of the law TimersPlays. Conditions: as each theorem states them. -/
import Derived.Test.YtlmnnbmihimedaaV5
namespace Go.Proofs.Ytlmnnbmihimedaa
open Go.RowKit Go.Maps
set_option linter.unusedVariables false
set_option linter.unusedSimpArgs false

set_option maxRecDepth 100000 in
set_option maxHeartbeats 8000000 in
theorem plays_small (A : Option Addr) (n c : Nat) (l0 : List Pl) (W : World) (hl : l0.length = n) (hA : RdP W A l0) (hn : n ≤ 200) :
    Calls Try.prog 7 #[.slice A n c] W fun e w' => e = .returned (.bool true) ∧ Below W.heap.size W w' := by
  have hni : ¬ (200 : Int) < (n : Int) := by omega
  have HA := Lib.hid hA
  have HLN := Lib.hid hl
  clear hA hl
  go_enter Try.func7, Try.ntmps7
  go_wp2_with (fail)
  refine (newL W).mono ?_
  rintro e w1 ⟨rfl, hq1, hb1⟩
  have HM1 : Hid (MidP W w1 (.slice none 0 0) [] []) := Lib.hid ⟨LS.nil _, List.Pairwise.nil, hq1.bound.mono (fun b hb => ⟨hb.1, hb.2, fun h => by simp [Value.ownBlock] at h⟩)⟩
  have HB1 := Lib.hid hb1
  have hs1 := hb1.size
  clear hq1 hb1
  go_wp2_with (fail)
  go_loopw [4, 5] (fun vl vi wr => ∃ (i : Nat) (A1 : Option Addr) (c1 : Nat) (l : List Tm), i ≤ n ∧ vi = .int .i64 i ∧ vl = .slice A1 (List.length (α := Tm) l) c1 ∧ MidP W wr (.slice A1 l.length c1) l l ∧ Kw (fun b => W.heap.size ≤ b) W wr) (fun _ i _ => n - (intOf i).toNat)
  case atStart => exact ⟨0, none, 0, [], Nat.zero_le _, rfl, rfl, HM1.out, Kw.ofBelow HB1.out⟩
  case round =>
    obtain ⟨i, A1, c1, l, hin, rfl, rfl, hm, hbl⟩ := hrel
    have HM := Lib.hid hm
    have HBL := Lib.hid hbl
    have hws := hbl.size
    by_cases hlt : i < n
    · have hi0 : (0 : Int) ≤ (i : Int) := by omega
      have hi1 : (i : Int) < (n : Int) := by omega
      obtain ⟨b, off, rfl, hb, hc⟩ := HA.out (by rw [HLN.out]; omega)
      obtain ⟨o0, o1, o2, o3⟩ := hc i (by rw [HLN.out]; exact hlt)
      obtain ⟨y, hy⟩ : ∃ y, l0.getD i zeroP = y := ⟨_, rfl⟩
      rw [hy] at o0 o1 o2 o3
      clear hy
      obtain ⟨d, ⟨t, k, s⟩⟩ := y
      dsimp only at o0 o1 o2 o3
      have hnb : ¬ W.heap.size ≤ b := by omega
      have o0 := (hbl.cell hb hnb).trans o0
      have o1 := (hbl.cell hb hnb).trans o1
      have o2 := (hbl.cell hb hnb).trans o2
      have o3 := (hbl.cell hb hnb).trans o3
      have hbw : b < wr.heap.size := by omega
      clear hc hm hbl hnb
      by_cases hd1 : d = 1
      · have hd := hd1
        subst hd
        go_wp2_with (fail)
        have hbA : Below wr.heap.size wr (wr.alloc (Obj.cells #[.int .i64 1, .int .i64 t, .string k, .string s] 45)) := bl_alloc (Below.refl _ _) _
        have x0 : (wr.alloc (Obj.cells #[.int .i64 1, .int .i64 t, .string k, .string s] 45)).cell? ⟨wr.heap.size, 0, none⟩ = some (.int .i64 1) := by go_keep
        have x1 : (wr.alloc (Obj.cells #[.int .i64 1, .int .i64 t, .string k, .string s] 45)).cell? ⟨wr.heap.size, 1, none⟩ = some (.int .i64 t) := by go_keep
        have x2 : (wr.alloc (Obj.cells #[.int .i64 1, .int .i64 t, .string k, .string s] 45)).cell? ⟨wr.heap.size, 2, none⟩ = some (.string k) := by go_keep
        have x3 : (wr.alloc (Obj.cells #[.int .i64 1, .int .i64 t, .string k, .string s] 45)).cell? ⟨wr.heap.size, 3, none⟩ = some (.string s) := by go_keep
        have hl0 : wr.heap.size < (wr.alloc (Obj.cells #[.int .i64 1, .int .i64 t, .string k, .string s] 45)).heap.size := by simp
        generalize (wr.alloc (Obj.cells #[.int .i64 1, .int .i64 t, .string k, .string s] 45)) = w0 at *
        have HB0 := Lib.hid hbA
        have HM0 := Lib.hid (HM.out.below hbA)
        have hs0 := hbA.size
        clear hbA
        refine (mid_put W w0 _ l ⟨t, k, s⟩ HM0.out).mono ?_
        rintro e w2 ⟨A2, c2, l2, rfl, hm2, hp2, hb2⟩
        have x0 := (hb2.cell (p := ⟨wr.heap.size, 0, none⟩) hl0).trans x0
        have x1 := (hb2.cell (p := ⟨wr.heap.size, 1, none⟩) hl0).trans x1
        have x2 := (hb2.cell (p := ⟨wr.heap.size, 2, none⟩) hl0).trans x2
        have x3 := (hb2.cell (p := ⟨wr.heap.size, 3, none⟩) hl0).trans x3
        have hs2 := hb2.size
        have hl2 : wr.heap.size < w2.heap.size := by omega
        have HQ := Lib.hid (mid_qput W w2 _ l2 l ⟨t, k, s⟩ hm2 hp2 (by omega))
        have HK2 := Lib.hid (HBL.out.trans (Kw.ofBelow (bl_then HB0.out hb2)))
        clear hm2 hp2 hb2
        generalize putR l ⟨t, k, s⟩ = r at *
        go_wp2_with (fail)
        refine HQ.out.mono ?_
        rintro e w3 ⟨rfl, hm3, hk3⟩
        have HM3 := Lib.hid hm3
        have HK3 := Lib.hid (HK2.out.trans hk3)
        have hs3 := hk3.size
        clear hm3 hk3
        go_wp2_with (fail)
        refine (mid_len W w3 _ l2 HM3.out).mono ?_
        rintro e _ ⟨rfl, rfl⟩
        go_wp2_with (fail)
        go_roundw
        case rel => exact ⟨i + 1, A2, c2, l2, by omega, by first | rfl | (push_cast; rfl) | go_num, by first | rfl | simp, HM3.out, HK3.out⟩
        case measure => simp [intOf]; omega
      · by_cases hd2 : d = 2
        · have hd := hd2
          subst hd
          go_wp2_with (fail)
          have hbA : Below wr.heap.size wr (wr.alloc (Obj.cells #[.int .i64 2, .int .i64 t, .string k, .string s] 45)) := bl_alloc (Below.refl _ _) _
          have x0 : (wr.alloc (Obj.cells #[.int .i64 2, .int .i64 t, .string k, .string s] 45)).cell? ⟨wr.heap.size, 0, none⟩ = some (.int .i64 2) := by go_keep
          have x1 : (wr.alloc (Obj.cells #[.int .i64 2, .int .i64 t, .string k, .string s] 45)).cell? ⟨wr.heap.size, 1, none⟩ = some (.int .i64 t) := by go_keep
          have x2 : (wr.alloc (Obj.cells #[.int .i64 2, .int .i64 t, .string k, .string s] 45)).cell? ⟨wr.heap.size, 2, none⟩ = some (.string k) := by go_keep
          have x3 : (wr.alloc (Obj.cells #[.int .i64 2, .int .i64 t, .string k, .string s] 45)).cell? ⟨wr.heap.size, 3, none⟩ = some (.string s) := by go_keep
          have hl0 : wr.heap.size < (wr.alloc (Obj.cells #[.int .i64 2, .int .i64 t, .string k, .string s] 45)).heap.size := by simp
          generalize (wr.alloc (Obj.cells #[.int .i64 2, .int .i64 t, .string k, .string s] 45)) = w0 at *
          have HB0 := Lib.hid hbA
          have HM0 := Lib.hid (HM.out.below hbA)
          have hs0 := hbA.size
          clear hbA
          refine (mid_drop W w0 _ l ⟨t, k, s⟩ HM0.out).mono ?_
          rintro e w2 ⟨A2, c2, l2, rfl, hm2, hp2, hb2⟩
          have x0 := (hb2.cell (p := ⟨wr.heap.size, 0, none⟩) hl0).trans x0
          have x1 := (hb2.cell (p := ⟨wr.heap.size, 1, none⟩) hl0).trans x1
          have x2 := (hb2.cell (p := ⟨wr.heap.size, 2, none⟩) hl0).trans x2
          have x3 := (hb2.cell (p := ⟨wr.heap.size, 3, none⟩) hl0).trans x3
          have hs2 := hb2.size
          have hl2 : wr.heap.size < w2.heap.size := by omega
          have HQ := Lib.hid (mid_qdrop W w2 _ l2 l ⟨t, k, s⟩ hm2 hp2 (by omega))
          have HK2 := Lib.hid (HBL.out.trans (Kw.ofBelow (bl_then HB0.out hb2)))
          clear hm2 hp2 hb2
          generalize dropR l ⟨t, k, s⟩ = r at *
          go_wp2_with (fail)
          refine HQ.out.mono ?_
          rintro e w3 ⟨rfl, hm3, hk3⟩
          have HM3 := Lib.hid hm3
          have HK3 := Lib.hid (HK2.out.trans hk3)
          have hs3 := hk3.size
          clear hm3 hk3
          go_wp2_with (fail)
          refine (mid_len W w3 _ l2 HM3.out).mono ?_
          rintro e _ ⟨rfl, rfl⟩
          go_wp2_with (fail)
          go_roundw
          case rel => exact ⟨i + 1, A2, c2, l2, by omega, by first | rfl | (push_cast; rfl) | go_num, by first | rfl | simp, HM3.out, HK3.out⟩
          case measure => simp [intOf]; omega
        · by_cases hd3 : d = 3
          · have hd := hd3
            subst hd
            go_wp2_with (fail)
            have hbA : Below wr.heap.size wr (wr.alloc (Obj.cells #[.int .i64 3, .int .i64 t, .string k, .string s] 45)) := bl_alloc (Below.refl _ _) _
            have x0 : (wr.alloc (Obj.cells #[.int .i64 3, .int .i64 t, .string k, .string s] 45)).cell? ⟨wr.heap.size, 0, none⟩ = some (.int .i64 3) := by go_keep
            have x1 : (wr.alloc (Obj.cells #[.int .i64 3, .int .i64 t, .string k, .string s] 45)).cell? ⟨wr.heap.size, 1, none⟩ = some (.int .i64 t) := by go_keep
            have x2 : (wr.alloc (Obj.cells #[.int .i64 3, .int .i64 t, .string k, .string s] 45)).cell? ⟨wr.heap.size, 2, none⟩ = some (.string k) := by go_keep
            have x3 : (wr.alloc (Obj.cells #[.int .i64 3, .int .i64 t, .string k, .string s] 45)).cell? ⟨wr.heap.size, 3, none⟩ = some (.string s) := by go_keep
            have hl0 : wr.heap.size < (wr.alloc (Obj.cells #[.int .i64 3, .int .i64 t, .string k, .string s] 45)).heap.size := by simp
            generalize (wr.alloc (Obj.cells #[.int .i64 3, .int .i64 t, .string k, .string s] 45)) = w0 at *
            have HB0 := Lib.hid hbA
            have HM0 := Lib.hid (HM.out.below hbA)
            have hs0 := hbA.size
            clear hbA
            obtain ⟨HAR⟩ : Nonempty (Hid (RdT w0 w0.heap.size A1 l)) := by
              obtain ⟨A', c', e, _, hR', _⟩ := HM0.out.1
              cases e
              exact ⟨Lib.hid hR'⟩
            have hl1024 := HM0.out.length
            refine (refdue_any A1 l.length c1 l t w0 rfl (by omega) HAR.out).mono ?_
            rintro e _ ⟨j, rfl, hd, rfl⟩
            have HD := Lib.hid hd
            have hjl : j ≤ l.length := hd.1
            have hlc : l.length ≤ c1 := by
              obtain ⟨A', c', e, h', _⟩ := HM0.out.1
              cases e
              exact h'
            clear hd
            go_wp2_with (fail)
            refine (mid_due W w0 A1 c1 l t j HM0.out HD.out (by omega)).mono ?_
            rintro e w2 ⟨Ao, co, rfl, hR1, hR2, hm2, hk2⟩
            have HM2 := Lib.hid hm2
            have HR1 := Lib.hid hR1
            have HR2 := Lib.hid hR2
            have HK2 := Lib.hid ((HBL.out.trans (Kw.ofBelow HB0.out)).trans hk2)
            have hs2 := hk2.size
            have hj0 : (0 : Int) ≤ (j : Int) := by omega
            have hj1 : (j : Int) ≤ (l.length : Int) := by omega
            have hj2 : (j : Int) ≤ (c1 : Int) := by omega
            have hj3 : (l.length : Int) ≤ (c1 : Int) := by omega
            have hlt : (l.take j).length = j := by rw [List.length_take]; omega
            have HLT := Lib.hid hlt
            clear hm2 hR1 hR2 hk2 hlt
            go_wp2_with (fail)
            refine (same_eq Ao A1 j co c1 (l.take j) w2 HLT.out (by omega) HR1.out HR2.out).mono ?_
            rintro e w3 ⟨rfl, hb3⟩
            have HM3 := Lib.hid (HM2.out.below hb3)
            have HK3 := Lib.hid (HK2.out.trans (Kw.ofBelow (Below.mono hb3 (by omega))))
            have hs3 := hb3.size
            clear hb3
            by_cases hcj : c1 = j
            · subst hcj
              obtain ⟨e1, hm4⟩ := mid_tail0 HM3.out
              have HM4 := Lib.hid hm4
              clear hm4 e1
              go_wp2_with (fail)
              refine (mid_len W w3 _ [] HM4.out).mono ?_
              rintro e _ ⟨rfl, rfl⟩
              go_wp2_with (fail)
              go_roundw
              case rel => exact ⟨i + 1, A1, 0, [], by omega, by first | rfl | (push_cast; rfl) | go_num, by first | rfl | simp, HM4.out, HK3.out⟩
              case measure => simp [intOf]; omega
            · obtain ⟨a, rfl⟩ := mid_some HM3.out (by omega)
              have HM4 := Lib.hid (mid_tail HM3.out hjl)
              have hdl : (l.drop j).length = l.length - j := List.length_drop
              go_wp2_with (fail)
              refine (mid_len W w3 _ (l.drop j) HM4.out).mono ?_
              rintro e _ ⟨rfl, rfl⟩
              go_wp2_with (fail)
              go_roundw
              case rel => exact ⟨i + 1, (some (a.add (j * 3))), (c1 - j), (l.drop j), by omega, by first | rfl | (push_cast; rfl) | go_num, by first | rfl | simp, (by have h := HM4.out; rw [← hdl] at h; exact h), HK3.out⟩
              case measure => simp [intOf]; omega
          · by_cases hd4 : d = 4
            · have hd := hd4
              subst hd
              go_wp2_with (fail)
              have hbA : Below wr.heap.size wr (wr.alloc (Obj.cells #[.int .i64 4, .int .i64 t, .string k, .string s] 45)) := bl_alloc (Below.refl _ _) _
              have x0 : (wr.alloc (Obj.cells #[.int .i64 4, .int .i64 t, .string k, .string s] 45)).cell? ⟨wr.heap.size, 0, none⟩ = some (.int .i64 4) := by go_keep
              have x1 : (wr.alloc (Obj.cells #[.int .i64 4, .int .i64 t, .string k, .string s] 45)).cell? ⟨wr.heap.size, 1, none⟩ = some (.int .i64 t) := by go_keep
              have x2 : (wr.alloc (Obj.cells #[.int .i64 4, .int .i64 t, .string k, .string s] 45)).cell? ⟨wr.heap.size, 2, none⟩ = some (.string k) := by go_keep
              have x3 : (wr.alloc (Obj.cells #[.int .i64 4, .int .i64 t, .string k, .string s] 45)).cell? ⟨wr.heap.size, 3, none⟩ = some (.string s) := by go_keep
              have hl0 : wr.heap.size < (wr.alloc (Obj.cells #[.int .i64 4, .int .i64 t, .string k, .string s] 45)).heap.size := by simp
              generalize (wr.alloc (Obj.cells #[.int .i64 4, .int .i64 t, .string k, .string s] 45)) = w0 at *
              have HB0 := Lib.hid hbA
              have HM0 := Lib.hid (HM.out.below hbA)
              have hs0 := hbA.size
              clear hbA
              cases l with
              | nil =>
                refine (mid_next0 W w0 _ HM0.out).mono ?_
                rintro e w2 ⟨rfl, hb2⟩
                have HM2 := Lib.hid (HM0.out.below hb2)
                have HK2 := Lib.hid (HBL.out.trans (Kw.ofBelow (bl_then HB0.out hb2)))
                have hs2 := hb2.size
                clear hb2
                go_wp2_with (fail)
                have hbN : Below w2.heap.size w2 (w2.alloc (Obj.cells #[.int .i64 0, .string ⟨#[]⟩, .string ⟨#[]⟩] 23)) := bl_alloc (Below.refl _ _) _
                have z0 : (w2.alloc (Obj.cells #[.int .i64 0, .string ⟨#[]⟩, .string ⟨#[]⟩] 23)).cell? ⟨w2.heap.size, 0, none⟩ = some (.int .i64 0) := by go_keep
                have z1 : (w2.alloc (Obj.cells #[.int .i64 0, .string ⟨#[]⟩, .string ⟨#[]⟩] 23)).cell? ⟨w2.heap.size, 1, none⟩ = some (.string ⟨#[]⟩) := by go_keep
                have z2 : (w2.alloc (Obj.cells #[.int .i64 0, .string ⟨#[]⟩, .string ⟨#[]⟩] 23)).cell? ⟨w2.heap.size, 2, none⟩ = some (.string ⟨#[]⟩) := by go_keep
                have hlz : w2.heap.size < (w2.alloc (Obj.cells #[.int .i64 0, .string ⟨#[]⟩, .string ⟨#[]⟩] 23)).heap.size := by simp
                generalize (w2.alloc (Obj.cells #[.int .i64 0, .string ⟨#[]⟩, .string ⟨#[]⟩] 23)) = w3 at *
                have HM3 := Lib.hid (HM2.out.below hbN)
                have HK3 := Lib.hid (HK2.out.trans (Kw.ofBelow (Below.mono hbN (by omega))))
                have hs3 := hbN.size
                clear hbN
                have g0 := ext_cell z0
                have g1 := ext_cell z1
                have g2 := ext_cell z2
                refine wp_region_ext (by kernel_rfl) (by kernel_rfl) ?_
                repeat (go_big_quiet_step (fail))
                refine wpQuiet_nil ?_
                rintro w4 ⟨⟨_, hb4⟩, rfl⟩
                have HM4 := Lib.hid (HM3.out.below hb4)
                have HK4 := Lib.hid (HK3.out.trans (Kw.ofBelow (Below.mono hb4 (by omega))))
                have hs4 := hb4.size
                clear hb4 g0 g1 g2
                go_wp2_with (fail)
                refine (mid_len W w4 _ [] HM4.out).mono ?_
                rintro e _ ⟨rfl, rfl⟩
                go_wp2_with (fail)
                go_roundw
                case rel => exact ⟨i + 1, A1, c1, [], by omega, by first | rfl | (push_cast; rfl) | go_num, by first | rfl | simp, HM4.out, HK4.out⟩
                case measure => simp [intOf]; omega
              | cons y l =>
                obtain ⟨A', c', e', hlc, hR', hA', _⟩ := HM0.out.1
                cases e'
                obtain ⟨bq, oq, rfl, hbq, _, hcq⟩ := hR' (by simp)
                obtain ⟨q0, q1, q2⟩ := hcq 0 (by simp)
                obtain ⟨yt, yk, ys⟩ := y
                simp only [List.getD_cons_zero, Nat.zero_mul, Nat.add_zero] at q0 q1 q2
                clear hR' hcq hA'
                refine (mid_next W w0 _ ⟨yt, yk, ys⟩ l HM0.out).mono ?_
                rintro e w2 ⟨rfl, hb2⟩
                have HM2 := Lib.hid (HM0.out.below hb2)
                have HK2 := Lib.hid (HBL.out.trans (Kw.ofBelow (bl_then HB0.out hb2)))
                have hs2 := hb2.size
                have q0 := (hb2.cell (p := ⟨bq, oq, none⟩) hbq).trans q0
                have q1 := (hb2.cell (p := ⟨bq, oq + 1, none⟩) hbq).trans q1
                have q2 := (hb2.cell (p := ⟨bq, oq + 2, none⟩) hbq).trans q2
                have hbq2 : bq < w2.heap.size := by omega
                clear hb2
                go_wp2_with (fail)
                have hbN : Below w2.heap.size w2 (w2.alloc (Obj.cells #[.int .i64 yt, .string yk, .string ys] 23)) := bl_alloc (Below.refl _ _) _
                have z0 : (w2.alloc (Obj.cells #[.int .i64 yt, .string yk, .string ys] 23)).cell? ⟨w2.heap.size, 0, none⟩ = some (.int .i64 yt) := by go_keep
                have z1 : (w2.alloc (Obj.cells #[.int .i64 yt, .string yk, .string ys] 23)).cell? ⟨w2.heap.size, 1, none⟩ = some (.string yk) := by go_keep
                have z2 : (w2.alloc (Obj.cells #[.int .i64 yt, .string yk, .string ys] 23)).cell? ⟨w2.heap.size, 2, none⟩ = some (.string ys) := by go_keep
                have hlz : w2.heap.size < (w2.alloc (Obj.cells #[.int .i64 yt, .string yk, .string ys] 23)).heap.size := by simp
                have q0 := (hbN.cell (p := ⟨bq, oq, none⟩) hbq2).trans q0
                have q1 := (hbN.cell (p := ⟨bq, oq + 1, none⟩) hbq2).trans q1
                have q2 := (hbN.cell (p := ⟨bq, oq + 2, none⟩) hbq2).trans q2
                have hbq3 : bq < (w2.alloc (Obj.cells #[.int .i64 yt, .string yk, .string ys] 23)).heap.size := Nat.lt_of_lt_of_le hbq2 hbN.size
                generalize (w2.alloc (Obj.cells #[.int .i64 yt, .string yk, .string ys] 23)) = w3 at *
                have HM3 := Lib.hid (HM2.out.below hbN)
                have HK3 := Lib.hid (HK2.out.trans (Kw.ofBelow (Below.mono hbN (by omega))))
                have hs3 := hbN.size
                clear hbN
                have g0 := ext_cell z0
                have g1 := ext_cell z1
                have g2 := ext_cell z2
                have k0 := ext_cell q0
                have k1 := ext_cell q1
                have k2 := ext_cell q2
                refine wp_region_ext (by kernel_rfl) (by kernel_rfl) ?_
                repeat (go_big_quiet_step (fail))
                refine wpQuiet_nil ?_
                rintro w4 ⟨⟨_, hb4⟩, rfl⟩
                have HM4 := Lib.hid (HM3.out.below hb4)
                have HK4 := Lib.hid (HK3.out.trans (Kw.ofBelow (Below.mono hb4 (by omega))))
                have hs4 := hb4.size
                clear hb4 k0 k1 k2 g0 g1 g2
                go_wp2_with (fail)
                refine (mid_len W w4 _ (⟨yt, yk, ys⟩ :: l) HM4.out).mono ?_
                rintro e _ ⟨rfl, rfl⟩
                go_wp2_with (fail)
                go_roundw
                case rel => exact ⟨i + 1, _, c1, (⟨yt, yk, ys⟩ :: l), by omega, by first | rfl | (push_cast; rfl) | go_num, by first | rfl | simp, HM4.out, HK4.out⟩
                case measure => simp [intOf]; omega
            · go_wp2_with (fail)
              have hbA : Below wr.heap.size wr (wr.alloc (Obj.cells #[.int .i64 d, .int .i64 t, .string k, .string s] 45)) := bl_alloc (Below.refl _ _) _
              have x0 : (wr.alloc (Obj.cells #[.int .i64 d, .int .i64 t, .string k, .string s] 45)).cell? ⟨wr.heap.size, 0, none⟩ = some (.int .i64 d) := by go_keep
              have x1 : (wr.alloc (Obj.cells #[.int .i64 d, .int .i64 t, .string k, .string s] 45)).cell? ⟨wr.heap.size, 1, none⟩ = some (.int .i64 t) := by go_keep
              have x2 : (wr.alloc (Obj.cells #[.int .i64 d, .int .i64 t, .string k, .string s] 45)).cell? ⟨wr.heap.size, 2, none⟩ = some (.string k) := by go_keep
              have x3 : (wr.alloc (Obj.cells #[.int .i64 d, .int .i64 t, .string k, .string s] 45)).cell? ⟨wr.heap.size, 3, none⟩ = some (.string s) := by go_keep
              have hl0 : wr.heap.size < (wr.alloc (Obj.cells #[.int .i64 d, .int .i64 t, .string k, .string s] 45)).heap.size := by simp
              generalize (wr.alloc (Obj.cells #[.int .i64 d, .int .i64 t, .string k, .string s] 45)) = w0 at *
              have HB0 := Lib.hid hbA
              have HM0 := Lib.hid (HM.out.below hbA)
              have hs0 := hbA.size
              clear hbA
              refine (mid_len W w0 _ l HM0.out).mono ?_
              rintro e _ ⟨rfl, rfl⟩
              go_wp2_with (fail)
              go_roundw
              case rel => exact ⟨i + 1, A1, c1, l, by omega, by first | rfl | (push_cast; rfl) | go_num, by first | rfl | simp, HM0.out, (HBL.out.trans (Kw.ofBelow HB0.out))⟩
              case measure => simp [intOf]; omega
    · have hine : i = n := by omega
      subst hine
      have hirr : ¬ (i : Int) < (i : Int) := by omega
      have hl1024 := HM.out.length
      clear hm hbl
      go_wp2_with (fail)
      refine (mid_list W wr A1 c1 l HM.out).mono ?_
      rintro e w2 ⟨Ao, co, rfl, hR1, hR2, hb2⟩
      have HR1 := Lib.hid hR1
      have HR2 := Lib.hid hR2
      have HB2 := Lib.hid hb2
      have hs2 := hb2.size
      clear hR1 hR2 hb2
      go_wp2_with (fail)
      refine (same_eq Ao A1 l.length co c1 l w2 rfl (by omega) HR1.out HR2.out).mono ?_
      rintro e w3 ⟨rfl, hb3⟩
      have HB3 := Lib.hid hb3
      clear hb3
      go_wp2_with (fail)
      refine (awake_any _).mono ?_
      rintro e w4 ⟨rfl, hb4⟩
      go_wp2_with (fail)
      go_ret
      exact ⟨rfl, (((HBL.out.trans (Kw.ofBelow HB2.out)).trans (Kw.ofBelow HB3.out)).trans (Kw.ofBelow hb4)).below (Nat.le_refl _) (fun b h => h)⟩
end Go.Proofs.Ytlmnnbmihimedaa
