/- Contract of ref.May. Conditions: as each theorem states them. -/
import Derived.Test.YtmalcekbhnkfgaaE2
namespace Go.Proofs.Ytmalcekbhnkfgaa
open Go.RowKit Go.Maps Go.Shelf
set_option linter.unusedVariables false
set_option linter.unusedSimpArgs false

theorem take_mem {l : List Sh} {k i : Nat} (h : k < i) (hl : k < l.length) : l.getD k zeroS ∈ l.take i := by
  rw [getS hl]
  exact List.mem_take_iff_getElem.2 ⟨k, by omega, rfl⟩
theorem okF_parts {f : Sh} (h : ¬ okF f) : f.tb < 1 ∨ (¬ f.tb < 1 ∧ 99999999 < f.tb) ∨ (¬ f.tb < 1 ∧ ¬ 99999999 < f.tb ∧ f.nm < 1) ∨ (¬ f.tb < 1 ∧ ¬ 99999999 < f.tb ∧ ¬ f.nm < 1 ∧ 99999999 < f.nm) ∨
    (¬ f.tb < 1 ∧ ¬ 99999999 < f.tb ∧ ¬ f.nm < 1 ∧ ¬ 99999999 < f.nm ∧ f.sz < 1) ∨ (¬ f.tb < 1 ∧ ¬ 99999999 < f.tb ∧ ¬ f.nm < 1 ∧ ¬ 99999999 < f.nm ∧ ¬ f.sz < 1 ∧ 262144 < f.sz) := by
  unfold okF okN at h
  omega
theorem okF_all {f : Sh} (h : okF f) : ¬ f.tb < 1 ∧ ¬ 99999999 < f.tb ∧ ¬ f.nm < 1 ∧ ¬ 99999999 < f.nm ∧ ¬ f.sz < 1 ∧ ¬ 262144 < f.sz := by
  unfold okF okN at h
  omega
set_option maxRecDepth 100000 in
set_option maxHeartbeats 1000000 in
theorem rmay_bad (p : Pt) (n : Nat) (w : World) (hn : p.fs.length = n) (h : p.id < 1 ∨ (¬ p.id < 1 ∧ 99999999 < p.id) ∨ (¬ p.id < 1 ∧ ¬ 99999999 < p.id ∧ 256 < n)) :
    Calls Try.prog 33 #[.agg #[.int .u64 p.id, .slice p.A n p.c]] w fun e w' => e = .returned (.bool false) ∧ Below w.heap.size w w' := by
  obtain ⟨pid, pfs, PA, pc⟩ := p
  dsimp only at *
  clear hn
  have hb := bl_alloc (Below.refl w.heap.size w) (Obj.cells #[.int .u64 pid, .slice PA n pc] 26)
  rcases h with h1 | ⟨h1, h2⟩ | ⟨h1, h2, h3⟩
  · go_enter Try.func33, Try.ntmps33
    go_wp2_with (fail)
    go_ret
    exact ⟨rfl, hb⟩
  · go_enter Try.func33, Try.ntmps33
    go_wp2_with (fail)
    go_ret
    exact ⟨rfl, hb⟩
  · have h4 : (256 : Int) < (n : Int) := by omega
    clear h3
    go_enter Try.func33, Try.ntmps33
    go_wp2_with (fail)
    go_ret
    exact ⟨rfl, hb⟩
set_option maxRecDepth 100000 in
set_option maxHeartbeats 4000000 in
theorem rmay_loop (p : Pt) (n : Nat) (w : World) (hn : p.fs.length = n) (hid : okN p.id) (h256 : n ≤ 256) (hA : RdS w w.heap.size p.A p.fs) :
    Calls Try.prog 33 #[.agg #[.int .u64 p.id, .slice p.A n p.c]] w fun e w' => e = .returned (.bool (mayB p)) ∧ Below w.heap.size w w' := by
  have HF : Hid (¬ okFs p.fs → mayB p = false) := Lib.hid (fun h => mayB_f (fun e => h e.2.2))
  have HT : Hid (okFs p.fs → mayB p = true) := Lib.hid (fun h => mayB_t ⟨hid, by omega, h⟩)
  generalize mayB p = res at *
  obtain ⟨pid, pfs, PA, pc⟩ := p
  dsimp only at *
  have hi1 : ¬ pid < 1 := by have := hid.1; omega
  have hi2 : ¬ 99999999 < pid := by have := hid.2; omega
  have hi3 : ¬ (256 : Int) < (n : Int) := by omega
  have HA := Lib.hid hA
  have HN := Lib.hid hn
  have hbA := bl_alloc (Below.refl w.heap.size w) (Obj.cells #[.int .u64 pid, .slice PA n pc] 26)
  have hP : BoxP (w.alloc (Obj.cells #[.int .u64 pid, .slice PA n pc] 26)) w.heap.size ⟨pid, pfs, PA, pc⟩ := by
    unfold BoxP
    rw [hn]
    exact World.alloc_heap_new w _
  have hs : (w.alloc (Obj.cells #[.int .u64 pid, .slice PA n pc] 26)).heap.size = w.heap.size + 1 := by simp
  clear hA hn hid
  go_enter Try.func33, Try.ntmps33
  go_wp2_with (fail)
  generalize (w.alloc (Obj.cells #[.int .u64 pid, .slice PA n pc] 26)) = wA at *
  have HBA := Lib.hid hbA
  have HP := Lib.hid hP
  have hsA := hbA.size
  clear hbA hP
  go_loopw [3] (fun vi wr => ∃ i : Nat, i ≤ n ∧ vi = .int .i64 i ∧ okFs (pfs.take i) ∧ Below wA.heap.size wA wr) (fun i _ => n - (intOf i).toNat)
  case atStart => exact ⟨0, Nat.zero_le _, rfl, by simpa using okFs.nil, Below.refl _ _⟩
  case round =>
    obtain ⟨i, hin, rfl, hok, hbl⟩ := hrel
    have HOK := Lib.hid hok
    have HBL := Lib.hid hbl
    have hws := hbl.size
    clear hok hbl
    obtain ⟨w7, hw7⟩ : ∃ w7, w7 = wr := ⟨_, rfl⟩
    subst hw7
    have c1 := (HP.out.kw HBL.out (by omega)).cells.2
    dsimp only at c1
    rw [HN.out] at c1
    have hl1 : w.heap.size < w7.heap.size := by omega
    by_cases hi : i < n
    · have hi0 : (0 : Int) ≤ (i : Int) := by omega
      have hi1' : (i : Int) < (n : Int) := by omega
      obtain ⟨b1, o1, rfl, hb1, _, hc1⟩ := HA.out (by rw [HN.out]; omega)
      obtain ⟨y0, y1, y2, y3⟩ := hc1 i (by rw [HN.out]; exact hi)
      have hsu := take_snocS (l := pfs) (i := i) (by rw [HN.out]; exact hi)
      have hfm := getS_mem (l := pfs) (i := i) (by rw [HN.out]; exact hi)
      obtain ⟨f, hf⟩ : ∃ f, pfs.getD i zeroS = f := ⟨_, rfl⟩
      rw [hf] at y0 y1 y2 y3 hsu hfm
      have HW7 := Lib.hid (HBA.out.trans (HBL.out.mono hsA))
      have y0 := (HW7.out.cell (p := ⟨b1, o1 + i * 4, none⟩) hb1).trans y0
      have y1 := (HW7.out.cell (p := ⟨b1, o1 + i * 4 + 1, none⟩) hb1).trans y1
      have y2 := (HW7.out.cell (p := ⟨b1, o1 + i * 4 + 2, none⟩) hb1).trans y2
      have y3 := (HW7.out.cell (p := ⟨b1, o1 + i * 4 + 3, none⟩) hb1).trans y3
      have hb7 : b1 < w7.heap.size := by omega
      have HSU := Lib.hid hsu
      have HFM := Lib.hid hfm
      have bE := BoxS.new w7 f
      have HBE := Lib.hid (HBL.out.alloc HBL.out.size (Obj.cells #[.int .u64 f.tb, .int .i64 f.sz, .int .u32 f.sm, .int .u64 f.nm] 36))
      have hsE : (w7.alloc (Obj.cells #[.int .u64 f.tb, .int .i64 f.sz, .int .u32 f.sm, .int .u64 f.nm] 36)).heap.size = w7.heap.size + 1 := by simp
      have HBX := Lib.hid bE
      clear hsu hfm hf hc1 bE
      by_cases hof : okF f
      · obtain ⟨t1, t2, t3, t4, t5, t6⟩ := okF_all hof
        have HOF := Lib.hid hof
        clear hof
        go_wp2_with (fail)
        generalize (w7.alloc (Obj.cells #[.int .u64 f.tb, .int .i64 f.sz, .int .u32 f.sm, .int .u64 f.nm] 36)) = wE at *
        go_loopw [5] (fun vk wr => ∃ k : Nat, k ≤ i ∧ vk = .int .i64 k ∧ (∀ g ∈ pfs.take k, g.tb ≠ f.tb ∧ g.nm ≠ f.nm) ∧ Below wE.heap.size wE wr) (fun k _ => i - (intOf k).toNat)
        case atStart => exact ⟨0, Nat.zero_le _, rfl, by simp, Below.refl _ _⟩
        case round =>
          obtain ⟨k, hki, rfl, hnk, hbk⟩ := hrel
          have HNK := Lib.hid hnk
          have hwk := hbk.size
          have HWE := Lib.hid (show Below wA.heap.size wA wr from HBE.out.trans (hbk.mono HBE.out.size))
          obtain ⟨v0, v1, v2, v3⟩ := (HBX.out.kw hbk (by omega)).cells
          have HBK := Lib.hid (show Below wA.heap.size wA wr from HBE.out.trans (hbk.mono HBE.out.size))
          have HB0 := Lib.hid hbk
          clear hnk hbk c1 y0 y1 y2 y3
          have c1 := (HP.out.kw HBK.out (by omega)).cells.2
          dsimp only at c1
          rw [HN.out] at c1
          have hl1 : w.heap.size < wr.heap.size := by omega
          have hl7 : w7.heap.size < wr.heap.size := by omega
          by_cases hk : k < i
          · have hk0 : (0 : Int) ≤ (k : Int) := by omega
            have hk1 : (k : Int) < (i : Int) := by omega
            have hk2 : (k : Int) < (n : Int) := by omega
            obtain ⟨b2, o2, hbe, hb2, _, hc2⟩ := HA.out (by rw [HN.out]; omega)
            cases hbe
            obtain ⟨z0, z1, z2, z3⟩ := hc2 k (by rw [HN.out]; omega)
            have hsk := take_snocS (l := pfs) (i := k) (by rw [HN.out]; omega)
            have hgm := take_mem (l := pfs) hk (by rw [HN.out]; omega)
            obtain ⟨g, hg⟩ : ∃ g, pfs.getD k zeroS = g := ⟨_, rfl⟩
            rw [hg] at z0 z1 z2 z3 hsk hgm
            have HWR := Lib.hid (HBA.out.trans (HBK.out.mono hsA))
            have z0 := ext_cell ((HWR.out.cell (p := ⟨b1, o1 + k * 4, none⟩) hb2).trans z0)
            have z3 := ext_cell ((HWR.out.cell (p := ⟨b1, o1 + k * 4 + 3, none⟩) hb2).trans z3)
            have e1 := ext_cell c1
            have v0 := ext_cell v0
            have v3 := ext_cell v3
            have HSK := Lib.hid hsk
            have HGM := Lib.hid hgm
            have hno : (g.tb = f.tb ∨ g.nm = f.nm) → Hid (res = false) := fun h => Lib.hid (HF.out (fun ho => by
              have h1 := ho.take (i + 1)
              rw [HSU.out] at h1
              obtain ⟨_, _, h2, h3⟩ := okFs_snoc.1 h1
              rcases h with h | h
              · exact h2 (List.mem_map.2 ⟨g, HGM.out, h⟩)
              · exact h3 (List.mem_map.2 ⟨g, HGM.out, h⟩)))
            have hgo : g.tb ≠ f.tb → g.nm ≠ f.nm → Hid (∀ g ∈ pfs.take (k + 1), g.tb ≠ f.tb ∧ g.nm ≠ f.nm) := fun h1 h2 => Lib.hid (by
              rw [HSK.out]
              intro g' hg'
              rcases List.mem_append.1 hg' with h' | h'
              · exact HNK.out g' h'
              · rw [List.mem_singleton.1 h']
                exact ⟨h1, h2⟩)
            clear hc2 hg hsk hgm z1 z2
            by_cases htb : g.tb = f.tb
            · have HV := hno (.inl htb)
              clear hgo hno
              rw [htb] at z0
              clear htb
              go_wp2_with (fail)
              refine wp_region_ext (by kernel_rfl) (by kernel_rfl) ?_
              repeat (first | fail | go_big_quiet_step (fail))
              refine wpQuiet_nil ?_
              rintro w8 ⟨⟨_, hb8⟩, rfl⟩
              have HB8 := Lib.hid (HBK.out.trans (hb8.mono HBK.out.size))
              have HB9 := Lib.hid (HB0.out.trans (hb8.mono HB0.out.size))
              clear hb8
              go_wp2_with (fail)
              go_ret
              exact ⟨by rw [HV.out]; rfl, HBA.out.trans (HB8.out.mono hsA)⟩
            · have H0 : Hid ((g.tb == f.tb) = false) := Lib.hid (by simpa using htb)
              have H1 : Hid (decide (g.tb = f.tb) = false) := dec_f htb
              by_cases hnm : g.nm = f.nm
              · have HV := hno (.inr hnm)
                clear hgo hno
                rw [hnm] at z3
                clear hnm
                go_wp2_with (fail)
                refine wp_region_ext (by kernel_rfl) (by kernel_rfl) ?_
                repeat (first | rw [H0.out] | rw [H1.out] | go_big_quiet_step (fail))
                refine wpQuiet_nil ?_
                rintro w8 ⟨⟨_, hb8⟩, rfl⟩
                have HB8 := Lib.hid (HBK.out.trans (hb8.mono HBK.out.size))
                have HB9 := Lib.hid (HB0.out.trans (hb8.mono HB0.out.size))
                clear hb8
                go_wp2_with (fail)
                go_ret
                exact ⟨by rw [HV.out]; rfl, HBA.out.trans (HB8.out.mono hsA)⟩
              · have HV := hgo htb hnm
                clear hgo hno
                have H2 : Hid ((g.nm == f.nm) = false) := Lib.hid (by simpa using hnm)
                have H3 : Hid (decide (g.nm = f.nm) = false) := dec_f hnm
                go_wp2_with (fail)
                refine wp_region_ext (by kernel_rfl) (by kernel_rfl) ?_
                repeat (first | rw [H0.out] | rw [H1.out] | rw [H2.out] | rw [H3.out] | go_big_quiet_step (fail))
                refine wpQuiet_nil ?_
                rintro w8 ⟨⟨_, hb8⟩, rfl⟩
                have HB8 := Lib.hid (HBK.out.trans (hb8.mono HBK.out.size))
                have HB9 := Lib.hid (HB0.out.trans (hb8.mono HB0.out.size))
                clear hb8
                go_wp2_with (fail)
                go_roundw
                case rel => exact ⟨k + 1, by omega, by first | rfl | (push_cast; rfl) | go_num, HV.out, HB9.out⟩
                case measure => simp [intOf]; omega
          · have hke : i = k := by omega
            subst hke
            have hirr : ¬ (i : Int) < (i : Int) := by omega
            have HV : Hid (okFs (pfs.take (i + 1))) := Lib.hid (by
              rw [HSU.out]
              refine okFs_snoc.2 ⟨HOK.out, HOF.out, fun h => ?_, fun h => ?_⟩
              · obtain ⟨g, hg, e⟩ := List.mem_map.1 h
                exact (HNK.out g hg).1 e
              · obtain ⟨g, hg, e⟩ := List.mem_map.1 h
                exact (HNK.out g hg).2 e)
            go_wp2_with (fail)
            go_roundw
            case rel => exact ⟨i + 1, by omega, by first | rfl | (push_cast; rfl) | go_num, HV.out, HBK.out⟩
            case measure => simp [intOf]; omega
      · have HV : Hid (res = false) := Lib.hid (HF.out (fun ho => hof (ho.1 f HFM.out)))
        have hpt := okF_parts hof
        clear hof HBX
        rcases hpt with t1 | ⟨t1, t2⟩ | ⟨t1, t2, t3⟩ | ⟨t1, t2, t3, t4⟩ | ⟨t1, t2, t3, t4, t5⟩ | ⟨t1, t2, t3, t4, t5, t6⟩
        · go_wp2_with (fail)
          go_ret
          exact ⟨by rw [HV.out]; rfl, HBA.out.trans (HBE.out.mono hsA)⟩
        · go_wp2_with (fail)
          go_ret
          exact ⟨by rw [HV.out]; rfl, HBA.out.trans (HBE.out.mono hsA)⟩
        · go_wp2_with (fail)
          go_ret
          exact ⟨by rw [HV.out]; rfl, HBA.out.trans (HBE.out.mono hsA)⟩
        · go_wp2_with (fail)
          go_ret
          exact ⟨by rw [HV.out]; rfl, HBA.out.trans (HBE.out.mono hsA)⟩
        · go_wp2_with (fail)
          go_ret
          exact ⟨by rw [HV.out]; rfl, HBA.out.trans (HBE.out.mono hsA)⟩
        · go_wp2_with (fail)
          go_ret
          exact ⟨by rw [HV.out]; rfl, HBA.out.trans (HBE.out.mono hsA)⟩
    · have hine : n = i := by omega
      subst hine
      have hirr : ¬ (n : Int) < (n : Int) := by omega
      have HV : Hid (res = true) := Lib.hid (HT.out (by have := HOK.out; rwa [List.take_of_length_le (by rw [HN.out]; exact Nat.le_refl _)] at this))
      go_wp2_with (fail)
      go_ret
      exact ⟨by rw [HV.out]; rfl, HBA.out.trans (HBL.out.mono hsA)⟩
theorem rmay_any (p : Pt) (w : World) (hA : RdS w w.heap.size p.A p.fs) :
    Calls Try.prog 33 #[ptV p] w fun e w' => e = .returned (.bool (mayB p)) ∧ Below w.heap.size w w' := by
  by_cases h : okN p.id ∧ p.fs.length ≤ 256
  · exact rmay_loop p _ w rfl h.1 h.2 hA
  · rw [mayB_f (fun e => h ⟨e.1, e.2.1⟩)]
    exact rmay_bad p _ w rfl (by unfold okN at h; omega)
end Go.Proofs.Ytmalcekbhnkfgaa
