/- Contract of ref.Clash. Conditions: as each theorem states them. -/
import Derived.Test.YtmalcekbhnkfgaaD4
import Derived.Test.YtmalcekbhnkfgaaE1
namespace Go.Proofs.Ytmalcekbhnkfgaa
open Go.RowKit Go.Maps Go.Shelf
set_option linter.unusedVariables false
set_option linter.unusedSimpArgs false

open Classical in
noncomputable def clashB (a b : List Sh) : Bool := decide (clashL a b)
theorem clashB_t {a b : List Sh} (h : clashL a b) : clashB a b = true := by simp [clashB, h]
theorem clashB_f {a b : List Sh} (h : ¬ clashL a b) : clashB a b = false := by simp [clashB, h]
set_option maxRecDepth 100000 in
set_option maxHeartbeats 4000000 in
theorem clash_len (p q : Pt) (n m : Nat) (w : World) (hn : p.fs.length = n) (hm : q.fs.length = m) (hn6 : n ≤ 1000000) (hm6 : m ≤ 1000000) (hA : RdS w w.heap.size p.A p.fs) (hB : RdS w w.heap.size q.A q.fs) :
    Calls Try.prog 34 #[.agg #[.int .u64 p.id, .slice p.A n p.c], .agg #[.int .u64 q.id, .slice q.A m q.c]] w fun e w' => e = .returned (.bool (clashB p.fs q.fs)) ∧ Below w.heap.size w w' := by
  obtain ⟨pid, pfs, PA, pc⟩ := p
  obtain ⟨qid, qfs, QA, qc⟩ := q
  dsimp only at *
  have HA := Lib.hid hA
  have HB := Lib.hid hB
  have HN := Lib.hid hn
  have HM := Lib.hid hm
  have hbA := bl_alloc (bl_alloc (Below.refl w.heap.size w) (Obj.cells #[.int .u64 pid, .slice PA n pc] 26)) (Obj.cells #[.int .u64 qid, .slice QA m qc] 26)
  have hP : BoxP ((w.alloc (Obj.cells #[.int .u64 pid, .slice PA n pc] 26)).alloc (Obj.cells #[.int .u64 qid, .slice QA m qc] 26)) w.heap.size ⟨pid, pfs, PA, pc⟩ := by
    unfold BoxP
    rw [hn]
    exact (Below.heap_alloc _ _ _ (by simp)).trans (World.alloc_heap_new w _)
  have hQ : BoxP ((w.alloc (Obj.cells #[.int .u64 pid, .slice PA n pc] 26)).alloc (Obj.cells #[.int .u64 qid, .slice QA m qc] 26)) (w.heap.size + 1) ⟨qid, qfs, QA, qc⟩ := by
    unfold BoxP
    rw [hm]
    have h := World.alloc_heap_new (w.alloc (Obj.cells #[.int .u64 pid, .slice PA n pc] 26)) (Obj.cells #[.int .u64 qid, .slice QA m qc] 26)
    rwa [World.size_alloc] at h
  have hs : ((w.alloc (Obj.cells #[.int .u64 pid, .slice PA n pc] 26)).alloc (Obj.cells #[.int .u64 qid, .slice QA m qc] 26)).heap.size = w.heap.size + 2 := by simp
  clear hA hB hn hm
  go_enter Try.func34, Try.ntmps34
  go_wp2_with (fail)
  generalize ((w.alloc (Obj.cells #[.int .u64 pid, .slice PA n pc] 26)).alloc (Obj.cells #[.int .u64 qid, .slice QA m qc] 26)) = wA at *
  have HBA := Lib.hid hbA
  have HP := Lib.hid hP
  have HQ := Lib.hid hQ
  have hsA := hbA.size
  clear hbA hP hQ
  go_loopw [5] (fun vi wr => ∃ i : Nat, i ≤ n ∧ vi = .int .i64 i ∧ (¬ clashL (pfs.take i) qfs) ∧ Below wA.heap.size wA wr) (fun i _ => n - (intOf i).toNat)
  case atStart => exact ⟨0, Nat.zero_le _, rfl, by simp [clashL], Below.refl _ _⟩
  case round =>
    obtain ⟨i, hin, rfl, hno, hbl⟩ := hrel
    have HNO := Lib.hid hno
    have HBL := Lib.hid hbl
    have hws := hbl.size
    clear hno hbl
    obtain ⟨w7, hw7⟩ : ∃ w7, w7 = wr := ⟨_, rfl⟩
    subst hw7
    have c1 := (HP.out.kw HBL.out (by omega)).cells.2
    have c2 := (HQ.out.kw HBL.out (by omega)).cells.2
    dsimp only at c1 c2
    rw [HN.out] at c1
    rw [HM.out] at c2
    have hl1 : w.heap.size < w7.heap.size := by omega
    have hl2 : w.heap.size + 1 < w7.heap.size := by omega
    by_cases hi : i < n
    · have hi0 : (0 : Int) ≤ (i : Int) := by omega
      have hi1 : (i : Int) < (n : Int) := by omega
      obtain ⟨b1, o1, rfl, hb1, _, hc1⟩ := HA.out (by rw [HN.out]; omega)
      obtain ⟨y0, y1, y2, y3⟩ := hc1 i (by rw [HN.out]; exact hi)
      have hsu := take_snocS (l := pfs) (i := i) (by rw [HN.out]; exact hi)
      have hfm := getS_mem (l := pfs) (i := i) (by rw [HN.out]; exact hi)
      obtain ⟨f, hf⟩ : ∃ f, pfs.getD i zeroS = f := ⟨_, rfl⟩
      rw [hf] at y0 y1 y2 y3 hsu hfm
      have Y0 := Lib.hid y0
      have Y1 := Lib.hid y1
      have Y2 := Lib.hid y2
      have Y3 := Lib.hid y3
      have HSU := Lib.hid hsu
      have HFM := Lib.hid hfm
      clear y0 y1 y2 y3 hsu hfm hf hc1
      go_wp2_with (fail)
      go_loopw [6] (fun vk wr => ∃ k : Nat, k ≤ m ∧ vk = .int .i64 k ∧ (∀ g ∈ qfs.take k, f.nm = g.nm → f = g) ∧ Below wA.heap.size wA wr) (fun k _ => m - (intOf k).toNat)
      case atStart => exact ⟨0, Nat.zero_le _, rfl, by simp, HBL.out⟩
      case round =>
        obtain ⟨k, hkm, rfl, hnk, hbk⟩ := hrel
        have HNK := Lib.hid hnk
        have HBK := Lib.hid hbk
        have hwk := hbk.size
        clear hnk hbk c1 c2
        have c1 := (HP.out.kw HBK.out (by omega)).cells.2
        have c2 := (HQ.out.kw HBK.out (by omega)).cells.2
        dsimp only at c1 c2
        rw [HN.out] at c1
        rw [HM.out] at c2
        have hl1 : w.heap.size < wr.heap.size := by omega
        have hl2 : w.heap.size + 1 < wr.heap.size := by omega
        by_cases hk : k < m
        · have hk0 : (0 : Int) ≤ (k : Int) := by omega
          have hk1 : (k : Int) < (m : Int) := by omega
          obtain ⟨b2, o2, rfl, hb2, _, hc2⟩ := HB.out (by rw [HM.out]; omega)
          obtain ⟨z0, z1, z2, z3⟩ := hc2 k (by rw [HM.out]; exact hk)
          have hsk := take_snocS (l := qfs) (i := k) (by rw [HM.out]; exact hk)
          have hgm := getS_mem (l := qfs) (i := k) (by rw [HM.out]; exact hk)
          obtain ⟨g, hg⟩ : ∃ g, qfs.getD k zeroS = g := ⟨_, rfl⟩
          rw [hg] at z0 z1 z2 z3 hsk hgm
          have HWR := Lib.hid (HBA.out.trans (HBK.out.mono hsA))
          have z0 := ext_cell ((HWR.out.cell (p := ⟨b2, o2 + k * 4, none⟩) hb2).trans z0)
          have z1 := ext_cell ((HWR.out.cell (p := ⟨b2, o2 + k * 4 + 1, none⟩) hb2).trans z1)
          have z2 := ext_cell ((HWR.out.cell (p := ⟨b2, o2 + k * 4 + 2, none⟩) hb2).trans z2)
          have z3 := ext_cell ((HWR.out.cell (p := ⟨b2, o2 + k * 4 + 3, none⟩) hb2).trans z3)
          have y0 := ext_cell ((HWR.out.cell (p := ⟨b1, o1 + i * 4, none⟩) hb1).trans Y0.out)
          have y1 := ext_cell ((HWR.out.cell (p := ⟨b1, o1 + i * 4 + 1, none⟩) hb1).trans Y1.out)
          have y2 := ext_cell ((HWR.out.cell (p := ⟨b1, o1 + i * 4 + 2, none⟩) hb1).trans Y2.out)
          have y3 := ext_cell ((HWR.out.cell (p := ⟨b1, o1 + i * 4 + 3, none⟩) hb1).trans Y3.out)
          have e1 := ext_cell c1
          have e2 := ext_cell c2
          have HSK := Lib.hid hsk
          have HGM := Lib.hid hgm
          have hgo : (f.nm = g.nm → f = g) → Hid (∀ g ∈ qfs.take (k + 1), f.nm = g.nm → f = g) := fun h => Lib.hid (by
            rw [HSK.out]
            intro g' hg'
            rcases List.mem_append.1 hg' with h' | h'
            · exact HNK.out g' h'
            · rw [List.mem_singleton.1 h']
              exact h)
          clear hc2 hg hsk hgm
          by_cases hnm : f.nm = g.nm
          · by_cases hfg : f = g
            · have HV := hgo (fun _ => hfg)
              subst hfg
              clear hgo hnm
              go_wp2_with (fail)
              refine wp_region_ext (by kernel_rfl) (by kernel_rfl) ?_
              repeat (first | fail | go_big_quiet_step (fail))
              refine wpQuiet_nil ?_
              rintro w8 ⟨⟨_, hb8⟩, rfl⟩
              have HB8 := Lib.hid (HBK.out.trans (hb8.mono HBK.out.size))
              clear hb8
              go_wp2_with (fail)
              go_roundw
              case rel => exact ⟨k + 1, by omega, by first | rfl | (push_cast; rfl) | go_num, HV.out, HB8.out⟩
              case measure => simp [intOf]; omega
            · have HV : Hid (clashB pfs qfs = true) := Lib.hid (clashB_t ⟨f, HFM.out, g, HGM.out, hnm, hfg⟩)
              have hpr := sh_parts hfg hnm
              clear hgo hfg
              obtain ⟨gt, gs, gm, gn, g5, g6, g7, g8⟩ := g
              obtain ⟨ft, fs, fm, fn, f5, f6, f7, f8⟩ := f
              dsimp only at *
              subst hnm
              rcases hpr with hne | ⟨rfl, hne⟩ | ⟨rfl, rfl, hne⟩
              · go_wp2_with (fail)
                refine wp_region_ext (by kernel_rfl) (by kernel_rfl) ?_
                repeat (first | fail | go_big_quiet_step (fail))
                refine wpQuiet_nil ?_
                rintro w8 ⟨⟨_, hb8⟩, rfl⟩
                have HB8 := Lib.hid (HBK.out.trans (hb8.mono HBK.out.size))
                clear hb8
                go_wp2_with (fail)
                go_ret
                exact ⟨by rw [HV.out]; rfl, HBA.out.trans (HB8.out.mono hsA)⟩
              · go_wp2_with (fail)
                refine wp_region_ext (by kernel_rfl) (by kernel_rfl) ?_
                repeat (first | fail | go_big_quiet_step (fail))
                refine wpQuiet_nil ?_
                rintro w8 ⟨⟨_, hb8⟩, rfl⟩
                have HB8 := Lib.hid (HBK.out.trans (hb8.mono HBK.out.size))
                clear hb8
                go_wp2_with (fail)
                go_ret
                exact ⟨by rw [HV.out]; rfl, HBA.out.trans (HB8.out.mono hsA)⟩
              · go_wp2_with (fail)
                refine wp_region_ext (by kernel_rfl) (by kernel_rfl) ?_
                repeat (first | fail | go_big_quiet_step (fail))
                refine wpQuiet_nil ?_
                rintro w8 ⟨⟨_, hb8⟩, rfl⟩
                have HB8 := Lib.hid (HBK.out.trans (hb8.mono HBK.out.size))
                clear hb8
                go_wp2_with (fail)
                go_ret
                exact ⟨by rw [HV.out]; rfl, HBA.out.trans (HB8.out.mono hsA)⟩
          · have HV := hgo (fun e => absurd e hnm)
            clear hgo
            have H0 : Hid ((f.nm == g.nm) = false) := Lib.hid (by simpa using hnm)
            have H1 : Hid (decide (f.nm = g.nm) = false) := dec_f hnm
            go_wp2_with (fail)
            refine wp_region_ext (by kernel_rfl) (by kernel_rfl) ?_
            repeat (first | rw [H0.out] | rw [H1.out] | go_big_quiet_step (fail))
            refine wpQuiet_nil ?_
            rintro w8 ⟨⟨_, hb8⟩, rfl⟩
            have HB8 := Lib.hid (HBK.out.trans (hb8.mono HBK.out.size))
            clear hb8
            go_wp2_with (fail)
            go_roundw
            case rel => exact ⟨k + 1, by omega, by first | rfl | (push_cast; rfl) | go_num, HV.out, HB8.out⟩
            case measure => simp [intOf]; omega
        · have hke : m = k := by omega
          subst hke
          have hirr : ¬ (m : Int) < (m : Int) := by omega
          have HV : Hid (¬ clashL (pfs.take (i + 1)) qfs) := Lib.hid (by
            rw [HSU.out]
            rintro ⟨f', hf', g, hg, e1, e2⟩
            rcases List.mem_append.1 hf' with h | h
            · exact HNO.out ⟨f', h, g, hg, e1, e2⟩
            · rw [List.mem_singleton.1 h] at e1 e2
              exact e2 (HNK.out g (by rw [List.take_of_length_le (by rw [HM.out]; exact Nat.le_refl _)]; exact hg) e1))
          go_wp2_with (fail)
          go_roundw
          case rel => exact ⟨i + 1, by omega, by first | rfl | (push_cast; rfl) | go_num, HV.out, HBK.out⟩
          case measure => simp [intOf]; omega
    · have hine : n = i := by omega
      subst hine
      have hirr : ¬ (n : Int) < (n : Int) := by omega
      have HV : Hid (clashB pfs qfs = false) := Lib.hid (clashB_f (by have := HNO.out; rwa [List.take_of_length_le (by rw [HN.out]; exact Nat.le_refl _)] at this))
      go_wp2_with (fail)
      go_ret
      exact ⟨by rw [HV.out]; rfl, HBA.out.trans (HBL.out.mono hsA)⟩
theorem clash_any (p q : Pt) (w : World) (hn6 : p.fs.length ≤ 1000000) (hm6 : q.fs.length ≤ 1000000) (hA : RdS w w.heap.size p.A p.fs) (hB : RdS w w.heap.size q.A q.fs) :
    Calls Try.prog 34 #[ptV p, ptV q] w fun e w' => e = .returned (.bool (clashB p.fs q.fs)) ∧ Below w.heap.size w w' :=
  clash_len p q _ _ w rfl rfl hn6 hm6 hA hB
end Go.Proofs.Ytmalcekbhnkfgaa
