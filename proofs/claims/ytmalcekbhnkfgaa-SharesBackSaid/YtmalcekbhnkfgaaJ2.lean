/- The walk of SharesBack. Conditions: as each theorem states them. -/
import Derived.Test.YtmalcekbhnkfgaaJ1
import Derived.Test.YtmalcekbhnkfgaaF2
namespace Go.Proofs.Ytmalcekbhnkfgaa
open Go.RowKit Go.Maps Go.Shelf
set_option linter.unusedVariables false
set_option linter.unusedSimpArgs false

set_option maxRecDepth 100000 in
set_option maxHeartbeats 16000000 in
theorem sback_small (A : Option Addr) (n c : Nat) (l : List Pt) (p : Pt) (W : World) (hl : l.length = n) (hA : RdP W W.heap.size A l) (hpr : RdS W W.heap.size p.A p.fs) (hpc : p.fs.length ≤ p.c) :
    Calls Try.prog 8 #[.slice A n c, ptV p] W fun e W' => e = .returned (.bool true) ∧ Below W.heap.size W W' := by
  have HLN := Lib.hid hl
  have HA := Lib.hid hA
  have HG := Lib.hid (fun (w' : World) (h : Below W.heap.size W w') => great_any A c l w' ((hA.below h).more h.size (Nat.le_refl _)))
  have HAD := Lib.hid (fun (w' : World) (h : Below W.heap.size W w') => add_any A c l p w' ((hA.below h).more h.size (Nat.le_refl _)) ((hpr.below h).more h.size (Nat.le_refl _)) hpc)
  rw [hl] at HG HAD
  have HPR := Lib.hid hpr
  have HPC := Lib.hid hpc
  obtain ⟨pid, pfs, pA, pc⟩ := p
  unfold ptV at *
  dsimp only at *
  have bP := BoxP.new W ⟨pid, pfs, pA, pc⟩
  have hb0 := bl_alloc (Below.refl W.heap.size W) (Obj.cells #[.int .u64 pid, .slice pA pfs.length pc] 26)
  have hs0 : (W.alloc (Obj.cells #[.int .u64 pid, .slice pA pfs.length pc] 26)).heap.size = W.heap.size + 1 := by simp
  dsimp only at bP
  clear hl hA hpr hpc
  go_enter Try.func8, Try.ntmps8
  go_wp2_with (fail)
  generalize (W.alloc (Obj.cells #[.int .u64 pid, .slice pA pfs.length pc] 26)) = w1 at *
  have HB1 := Lib.hid hb0
  have BP := Lib.hid bP
  clear hb0
  refine (HG.out w1 HB1.out).mono ?_
  rintro e w' ⟨⟨b, rfl, hsm⟩, rfl⟩
  cases b with
  | true =>
    clear hsm bP
    go_wp2_with (go_at_call 11; refine (awake_any _).mono ?_; rintro e w3 ⟨rfl, hb3⟩)
    go_ret
    exact ⟨rfl, HB1.out.trans (hb3.mono (by omega))⟩
  | false =>
    obtain ⟨x0, x1⟩ := bP.cells
    dsimp only at x0 x1
    have hxl : W.heap.size < w1.heap.size := by omega
    clear hsm bP
    by_cases h3 : pfs.length ≤ 300
    · have h3i : ¬ (300 : Int) < (pfs.length : Int) := by omega
      have h3d : decide ((300 : Int) < (pfs.length : Int)) = false := decide_eq_false h3i
      go_wp2_with ((go_at_call 13; refine Hid.out ?_))
      refine Lib.hid ?_
      refine (HAD.out w1 HB1.out).mono ?_
      rintro e w2 ⟨v, rfl, hv0, hv1, hb2⟩
      have HV0 := Lib.hid hv0
      have HV1 := Lib.hid hv1
      have hz2 := hb2.size
      have HB2 := Lib.hid (HB1.out.trans (hb2.mono HB1.out.size))
      have HP2 := Lib.hid (BP.out.kw hb2 (by omega))
      obtain ⟨x0, x1⟩ := HP2.out.cells
      dsimp only at x0 x1
      have hxl2 : W.heap.size < w2.heap.size := by omega
      clear hv0 hv1 hb2 HAD HG
      by_cases hE : addE l ⟨pid, pfs, pA, pc⟩ = 0
      · have HE := Lib.hid hE
        obtain ⟨A2, c2, l2, rfl, hs2, ho2⟩ := HV1.out hE
        rw [hE]
        clear hE
        have HS2 := Lib.hid hs2
        have HO2 := Lib.hid ho2.rd
        have HRP : Hid (RightP l2) := Lib.hid ((right_same hs2).2 (right_add HE.out))
        have hl2 : l2.length = n + 1 := by rw [hs2.1, List.length_append, HLN.out]; rfl
        have HL2 := Lib.hid hl2
        have hn16 : n + 1 ≤ 16 := by rw [← hl2]; exact HRP.out.1
        rw [HLN.out]
        have HDR := Lib.hid (drop_any A2 c2 pid l2 w2 ho2.rd)
        rw [hl2] at HDR
        obtain ⟨m, hm⟩ : ∃ m, n + 1 = m := ⟨_, rfl⟩
        rw [hm] at HDR hn16 HL2 ⊢
        have HM := Lib.hid hm
        clear hs2 ho2 hl2 hm
        go_wp2_with ((go_at_call 26; refine Hid.out ?_))
        refine Lib.hid ?_
        refine HDR.out.mono ?_
        rintro e w3 ⟨v3, rfl, hv0, hv1, hb3⟩
        have HE2 : dropE l2 pid = 0 := by
          rw [dropE_same HS2.out]
          exact dropE_0 (right_add HE.out) (List.mem_append_right _ (List.mem_singleton.2 rfl)) rfl
        obtain ⟨A3, c3, l3, rfl, hs3, ho3⟩ := hv1 HE2
        have hs3' : sameP l3 l := by
          refine sameP_trans hs3 ?_
          have h := dropL_same (id := pid) HS2.out
          rwa [drop_added (p := ⟨pid, pfs, pA, pc⟩) HE.out] at h
        have hdl : (dropL l2 pid).length = n := by rw [← hs3.1, hs3'.1, HLN.out]
        rw [HE2, hdl]
        have HS3 := Lib.hid hs3'
        have HO3 := Lib.hid ho3.rd
        have HB23 := Lib.hid hb3
        have hz3 := hb3.size
        have HB3 := Lib.hid (HB2.out.trans (hb3.mono HB2.out.size))
        clear hv0 hv1 hb3 HE2 hs3 hs3' ho3 hdl HDR
        go_wp2_with (fail)
        go_loopw [9, 11] (fun vf vi wr => ∃ i f : Nat, i ≤ m ∧ vi = .int .i64 i ∧ vf = .int .i64 f ∧ f = (flat 0 (l2.take i)).length ∧ Below w3.heap.size w3 wr) (fun _ i _ => m - (intOf i).toNat)
        case atStart => exact ⟨0, 0, Nat.zero_le _, rfl, rfl, rfl, Below.refl _ _⟩
        case round =>
          obtain ⟨i, f, him, rfl, rfl, hf, hbl⟩ := hrel
          have HF := Lib.hid hf
          have HBL := Lib.hid hbl
          have hws := hbl.size
          clear hf hbl
          by_cases hi : i < m
          · have hi0 : (0 : Int) ≤ (i : Int) := by omega
            have hi1 : (i : Int) < (m : Int) := by omega
            obtain ⟨b, off, rfl, hb, _, hc⟩ := HO2.out.1 (by rw [HL2.out]; omega)
            obtain ⟨_, a1⟩ := hc i (by rw [HL2.out]; exact hi)
            have hbw3 : b < w3.heap.size := by omega
            have a1 := ((HB23.out.trans (HBL.out.mono hz3)).cell (p := ⟨b, off + i * 2 + 1, none⟩) hb).trans a1
            have hbw : b < wr.heap.size := by omega
            obtain ⟨y, hy⟩ : ∃ y, (l2.getD i zeroP).fs.length = y := ⟨_, rfl⟩
            rw [hy] at a1
            have hyb : y ≤ 256 := by
              rw [← hy]
              exact (HRP.out.2.1 _ (getP_mem (by rw [HL2.out]; exact hi))).2.1
            have HF1 : Hid (f + y = (flat 0 (l2.take (i + 1))).length) := Lib.hid (by rw [files_step (by rw [HL2.out]; exact hi), hy, HF.out])
            have hfb : f ≤ 4096 := by
              have h1 := flat_length_le 0 (l2.take i) (fun q hq => (HRP.out.2.1 q (List.mem_of_mem_take hq)).2.1)
              have h2 := HF.out
              rw [List.length_take] at h1
              omega
            clear hc hy
            go_wp2_with (fail)
            go_roundw
            case rel => exact ⟨i + 1, f + y, by omega, by first | rfl | (push_cast; rfl) | go_num, by first | rfl | (push_cast; rfl) | go_num, HF1.out, HBL.out⟩
            case measure => simp [intOf]; omega
          · obtain rfl : m = i := by omega
            have HFE : Hid ((flat 0 l2).length = f) := Lib.hid (by
              have h := HF.out
              rw [List.take_of_length_le (by rw [HL2.out]; exact Nat.le_refl _)] at h
              exact h.symm)
            have HB2r := Lib.hid (HB23.out.trans (HBL.out.mono hz3))
            have HCN := Lib.hid (counts_any A2 c2 l2 wr ((HO2.out.below HB2r.out).more HB2r.out.size (Nat.le_refl _)) (cnt_len l2))
            rw [HL2.out] at HCN
            go_wp2_with ((go_at_call 19; refine Hid.out ?_))
            refine Lib.hid ?_
            refine HCN.out.mono ?_
            rintro e w4 ⟨v4, k, z, rfl, hk6, hks, hown, hb4⟩
            obtain ⟨AK, ck, rfl, hcr⟩ := CntR.of_own hown
            have HCR := Lib.hid hcr
            have HKS := Lib.hid hks
            have HB4 := Lib.hid (HBL.out.trans (hb4.mono hws))
            have HSUM := Lib.hid ((csum_keys HRP.out hks).trans (cnt_length HRP.out))
            have hb34 : Below w3.heap.size w3 w4 := HBL.out.trans (hb4.mono hws)
            have HB34 := Lib.hid hb34
            have hws4 := hb34.size
            have hff : f ≤ 4096 := by
              have h1 := flat_length_le 0 l2 (fun q hq => (HRP.out.2.1 q hq).2.1)
              have h2 := HFE.out
              rw [← h2, HL2.out] at *
              omega
            clear hown hks hb4 hcr hb34
            go_wp2_with (fail)
            go_loopw [10, 13] (fun vn vi wr => ∃ i y : Nat, i ≤ k ∧ vi = .int .i64 i ∧ vn = .int .i64 y ∧ y = csum (cntL l2) z i ∧ Below w4.heap.size w4 wr) (fun _ i _ => k - (intOf i).toNat)
            case atStart => exact ⟨0, 0, Nat.zero_le _, rfl, rfl, rfl, Below.refl _ _⟩
            case round =>
              obtain ⟨i, ny, hik, rfl, rfl, hny, hbl⟩ := hrel
              have HNY := Lib.hid hny
              have HBL := Lib.hid hbl
              have hws := hbl.size
              have hnyb : ny ≤ 4096 := by
                have h1 := csum_mono (cntL l2) z hik
                have h2 := HSUM.out
                have h3 := HFE.out
                omega
              clear hny hbl
              by_cases hi : i < k
              · have hi0 : (0 : Int) ≤ (i : Int) := by omega
                have hi1 : (i : Int) < (k : Int) := by omega
                obtain ⟨g, rfl, hg, hcells⟩ := HCR.out (by omega)
                obtain ⟨a0, a1⟩ := hcells i hi
                obtain ⟨y, hy⟩ : ∃ y, (cntL l2).count (z i) = y := ⟨_, rfl⟩
                have HY := Lib.hid hy
                rw [hy] at a1
                have HN1 : Hid (ny + y = csum (cntL l2) z (i + 1)) := Lib.hid (by
                  show ny + y = csum (cntL l2) z i + _
                  rw [← hy, HNY.out])
                have a0 := (HBL.out.cell (p := ⟨g, i * 2, none⟩) hg).trans a0
                have a1 := (HBL.out.cell (p := ⟨g, i * 2 + 1, none⟩) hg).trans a1
                have hgw : g < wr.heap.size := by omega
                clear hy
                have hy : (1 : Int) ≤ (y : Int) ∧ (y : Int) ≤ (m : Int) := by
                  rw [← HY.out]
                  have h1 := count_le HRP.out (z i)
                  have h2 : 0 < (cntL l2).count (z i) := List.count_pos_iff.2 (by
                    obtain ⟨u, hu⟩ : ∃ u : U64, u.1 = z i := ⟨⟨z i, HKS.out.2.2 i hi⟩, rfl⟩
                    rw [← hu]
                    exact (HKS.out.2.1 u).1 ⟨i, hi, hu.symm⟩)
                  rw [HL2.out] at h1
                  omega
                obtain ⟨hy1, hy2⟩ := hy
                have hyb1 : ¬ (y : Int) < 1 := by omega
                have hyb2 : ¬ (m : Int) < (y : Int) := by omega
                have G0 : Hid (decide ((y : Int) < 1) = false) := Lib.hid (decide_eq_false hyb1)
                have G1 : Hid (decide ((m : Int) < (y : Int)) = false) := Lib.hid (decide_eq_false hyb2)
                have G2 : Hid (decide (y < 1) = false) := Lib.hid (decide_eq_false (by omega))
                have G3 : Hid (decide (m < y) = false) := Lib.hid (decide_eq_false (by omega))
                have rq0 := ext_cell a0
                have rq1 := ext_cell a1
                by_cases hi00 : 0 < i
                · have P0 : Hid (decide ((0 : Int) < (i : Int)) = true) := Lib.hid (decide_eq_true (by omega))
                  have P1 : Hid (decide (0 < i) = true) := Lib.hid (decide_eq_true hi00)
                  have q0 : (0 : Int) ≤ (i : Int) - 1 := by omega
                  have q1 : (i : Int) - 1 < (k : Int) := by omega
                  have qn : ((i : Int) - 1).toNat = i - 1 := by omega
                  obtain ⟨b0, _⟩ := hcells (i - 1) (by omega)
                  have b0 := (HBL.out.cell (p := ⟨g, (i - 1) * 2, none⟩) hg).trans b0
                  have rq2 := ext_cell b0
                  have hlt := HKS.out.1 (i - 1) i (by omega) hi
                  obtain ⟨za, hza⟩ : ∃ x, z (i - 1) = x := ⟨_, rfl⟩
                  obtain ⟨zb, hzb⟩ : ∃ x, z i = x := ⟨_, rfl⟩
                  rw [hza] at b0 rq2 hlt
                  rw [hzb] at a0 rq0 hlt
                  have P2 : Hid (decide (zb ≤ za) = false) := Lib.hid (decide_eq_false (by omega))
                  clear hza hzb hlt hcells
                  go_wp2_with (fail)
                  refine wp_region_ext (by kernel_rfl) (by kernel_rfl) ?_
                  repeat (first | rw [G0.out] | rw [G1.out] | rw [G2.out] | rw [G3.out] | rw [P0.out] | rw [P1.out] | rw [P2.out] | go_big_quiet_step (fail))
                  refine wpQuiet_nil ?_
                  rintro wq ⟨⟨_, hbx⟩, rfl⟩
                  have HBX := Lib.hid (HBL.out.trans (hbx.mono hws))
                  clear hbx
                  go_wp2_with (fail)
                  go_roundw
                  case rel => exact ⟨i + 1, _, by omega, by first | rfl | (push_cast; rfl) | go_num, by first | rfl | (push_cast; rfl) | go_num, HN1.out, HBX.out⟩
                  case measure => simp [intOf]; omega
                · have P0 : Hid (decide ((0 : Int) < (i : Int)) = false) := Lib.hid (decide_eq_false (by omega))
                  have P1 : Hid (decide (0 < i) = false) := Lib.hid (decide_eq_false hi00)
                  clear hcells
                  go_wp2_with (fail)
                  refine wp_region_ext (by kernel_rfl) (by kernel_rfl) ?_
                  repeat (first | rw [G0.out] | rw [G1.out] | rw [G2.out] | rw [G3.out] | rw [P0.out] | rw [P1.out] | go_big_quiet_step (fail))
                  refine wpQuiet_nil ?_
                  rintro wq ⟨⟨_, hbx⟩, rfl⟩
                  have HBX := Lib.hid (HBL.out.trans (hbx.mono hws))
                  clear hbx
                  go_wp2_with (fail)
                  go_roundw
                  case rel => exact ⟨i + 1, _, by omega, by first | rfl | (push_cast; rfl) | go_num, by first | rfl | (push_cast; rfl) | go_num, HN1.out, HBX.out⟩
                  case measure => simp [intOf]; omega
              · obtain rfl : i = k := by omega
                have hny : ny = f := by
                  have h2 := HSUM.out
                  have h3 := HFE.out
                  have h4 := HNY.out
                  omega
                subst hny
                have HBE := Lib.hid (HB3.out.trans ((HB34.out.trans (HBL.out.mono hws4)).mono HB3.out.size))
                have HR16 := Lib.hid (fun (w' : World) (h : Below W.heap.size W w') (h2 : Below w2.heap.size w2 w') => right_any A2 c2 l2 w' ((HO2.out.below h2).more h2.size (Nat.le_refl _)))
                have HS15 := Lib.hid (fun (w' : World) (h : Below W.heap.size W w') (h2 : Below w3.heap.size w3 w') => same_any A3 A c3 c l3 l w' (by rw [HS3.out.1, HLN.out]; have := HM.out; omega) (fun q hq => by
                  obtain ⟨q', hq', _, e⟩ := sameP_mem HS3.out hq
                  rw [e]
                  have := (addE_0 HE.out).1.1.2.1 q' hq'
                  have := this.2.1
                  omega) ((HO3.out.below h2).more h2.size (Nat.le_refl _)) ((HA.out.below h).more h.size (Nat.le_refl _)))
                rw [rightB_t HRP.out, HL2.out] at HR16
                rw [eqP_t HS3.out, HS3.out.1, HLN.out] at HS15
                have HB2e := Lib.hid (HB23.out.trans ((HB34.out.trans (HBL.out.mono hws4)).mono hz3))
                have HB3e := Lib.hid (HB34.out.trans (HBL.out.mono hws4))
                go_wp2_with ((go_at_call 16; refine Hid.out ?_))
                refine Lib.hid ?_
                refine (HR16.out wr HBE.out HB2e.out).mono ?_
                rintro e w5 ⟨rfl, hb5⟩
                have HB5 := Lib.hid (HBE.out.trans (hb5.mono HBE.out.size))
                have HB35 := Lib.hid (HB3e.out.trans (hb5.mono HB3e.out.size))
                clear hb5
                go_wp2_with ((go_at_call 15; refine Hid.out ?_))
                refine Lib.hid ?_
                refine (HS15.out w5 HB5.out HB35.out).mono ?_
                rintro e w6 ⟨rfl, hb6⟩
                have HB6 := Lib.hid (HB5.out.trans (hb6.mono HB5.out.size))
                clear hb6
                go_wp2_with (go_at_call 11; refine (awake_any _).mono ?_; rintro e w7 ⟨rfl, hb7⟩)
                go_ret
                exact ⟨rfl, HB6.out.trans (hb7.mono HB6.out.size)⟩
      · obtain ⟨er, her⟩ : ∃ er, addE l ⟨pid, pfs, pA, pc⟩ = er := ⟨_, rfl⟩
        rw [HV0.out hE]
        rw [her] at hE ⊢
        have hnb : (er != 0) = true := by simpa using hE
        clear HV0 HV1 her
        go_wp2_with (go_at_call 11; refine (awake_any _).mono ?_; rintro e w3 ⟨rfl, hb3⟩)
        go_ret
        exact ⟨rfl, HB2.out.trans (hb3.mono HB2.out.size)⟩
    · have h3i : (300 : Int) < (pfs.length : Int) := by omega
      have h3d : decide ((300 : Int) < (pfs.length : Int)) = true := decide_eq_true h3i
      go_wp2_with (go_at_call 11; refine (awake_any _).mono ?_; rintro e w3 ⟨rfl, hb3⟩)
      go_ret
      exact ⟨rfl, HB1.out.trans (hb3.mono (by omega))⟩
theorem back_walk (A : Option Addr) (c : Nat) (l : List Pt) (q : Pt) (W : World) (o : RdP W W.heap.size A l ∧ l.length ≤ c ∧ l.length ≤ maxLen ∧ (A = none → c = 0) ∧ okA l)
    (k : RdS W W.heap.size q.A q.fs ∧ q.fs.length ≤ q.c ∧ (q.A = none → q.c = 0)) :
    Calls Try.prog 8 #[.slice A l.length c, ptV q] W fun e w' => e = .returned (.bool true) ∧ Below W.heap.size W w' :=
  sback_small A l.length c l q W rfl o.1 k.1 k.2.1
end Go.Proofs.Ytmalcekbhnkfgaa
