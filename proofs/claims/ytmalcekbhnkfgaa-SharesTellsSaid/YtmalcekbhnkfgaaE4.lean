/- Contract of ref.May. Conditions: as each theorem states them. -/
import Derived.Test.YtmalcekbhnkfgaaE2
namespace Go.Proofs.Ytmalcekbhnkfgaa
open Go.RowKit Go.Maps Go.Shelf
set_option linter.unusedVariables false
set_option linter.unusedSimpArgs false

theorem take_mem {l : List Sh} {k i : Nat} (h : k < i) (hl : k < l.length) : l.getD k zeroS ∈ l.take i := by
  rw [getS hl]
  exact List.mem_take_iff_getElem.2 ⟨k, by omega, rfl⟩
theorem okF_parts {f : Sh} (h : ¬ okF f) : f.tb < 1 ∨ (¬ f.tb < 1 ∧ 99999999 < f.tb) ∨ (¬ f.tb < 1 ∧ ¬ 99999999 < f.tb ∧ f.nm < 1) ∨ (¬ f.tb < 1 ∧ ¬ 99999999 < f.tb ∧ ¬ f.nm < 1 ∧ 99999999 < f.nm) ∨
    (¬ f.tb < 1 ∧ ¬ 99999999 < f.tb ∧ ¬ f.nm < 1 ∧ ¬ 99999999 < f.nm ∧ f.sz < 1) ∨ (¬ f.tb < 1 ∧ ¬ 99999999 < f.tb ∧ ¬ f.nm < 1 ∧ ¬ 99999999 < f.nm ∧ ¬ f.sz < 1 ∧ 262144 < f.sz) := by
  unfold okF okN at h
  omega
theorem okF_all {f : Sh} (h : okF f) : ¬ f.tb < 1 ∧ ¬ 99999999 < f.tb ∧ ¬ f.nm < 1 ∧ ¬ 99999999 < f.nm ∧ ¬ f.sz < 1 ∧ ¬ 262144 < f.sz := by
  unfold okF okN at h
  omega
set_option maxRecDepth 100000 in
set_option maxHeartbeats 1000000 in
theorem rmay_bad (p : Pt) (n : Nat) (w : World) (hn : p.fs.length = n) (h : p.id < 1 ∨ (¬ p.id < 1 ∧ 99999999 < p.id) ∨ (¬ p.id < 1 ∧ ¬ 99999999 < p.id ∧ 256 < n)) :
    Calls Try.prog 33 #[.agg #[.int .u64 p.id, .slice p.A n p.c]] w fun e w' => e = .returned (.bool false) ∧ Below w.heap.size w w' := by
  obtain ⟨pid, pfs, PA, pc⟩ := p
  dsimp only at *
  clear hn
  have hb := bl_alloc (Below.refl w.heap.size w) (Obj.cells #[.int .u64 pid, .slice PA n pc] 26)
  rcases h with h1 | ⟨h1, h2⟩ | ⟨h1, h2, h3⟩
  · go_enter Try.func33, Try.ntmps33
    go_wp2_with (fail)
    go_ret
    exact ⟨rfl, hb⟩
  · go_enter Try.func33, Try.ntmps33
    go_wp2_with (fail)
    go_ret
    exact ⟨rfl, hb⟩
  · have h4 : (256 : Int) < (n : Int) := by omega
    clear h3
    go_enter Try.func33, Try.ntmps33
    go_wp2_with (fail)
    go_ret
    exact ⟨rfl, hb⟩
set_option maxRecDepth 100000 in
set_option maxHeartbeats 4000000 in
theorem rmay_loop (p : Pt) (n : Nat) (w : World) (hn : p.fs.length = n) (hid : okN p.id) (h256 : n ≤ 256) (hA : RdS w w.heap.size p.A p.fs) :
    Calls Try.prog 33 #[.agg #[.int .u64 p.id, .slice p.A n p.c]] w fun e w' => e = .returned (.bool (mayB p)) ∧ Below w.heap.size w w' := by
  have HF : Hid (¬ okFs p.fs → mayB p = false) := Lib.hid (fun h => mayB_f (fun e => h e.2.2))
  have HT : Hid (okFs p.fs → mayB p = true) := Lib.hid (fun h => mayB_t ⟨hid, by omega, h⟩)
  generalize mayB p = res at *
  obtain ⟨pid, pfs, PA, pc⟩ := p
  dsimp only at *
  have hi1 : ¬ pid < 1 := by have := hid.1; omega
  have hi2 : ¬ 99999999 < pid := by have := hid.2; omega
  have hi3 : ¬ (256 : Int) < (n : Int) := by omega
  have HA := Lib.hid hA
  have HN := Lib.hid hn
  have hbA := bl_alloc (Below.refl w.heap.size w) (Obj.cells #[.int .u64 pid, .slice PA n pc] 26)
  have hP : BoxP (w.alloc (Obj.cells #[.int .u64 pid, .slice PA n pc] 26)) w.heap.size ⟨pid, pfs, PA, pc⟩ := by
    unfold BoxP
    rw [hn]
    exact World.alloc_heap_new w _
  have hs : (w.alloc (Obj.cells #[.int .u64 pid, .slice PA n pc] 26)).heap.size = w.heap.size + 1 := by simp
  clear hA hn hid
  go_enter Try.func33, Try.ntmps33
  go_wp2_with (fail)
  generalize (w.alloc (Obj.cells #[.int .u64 pid, .slice PA n pc] 26)) = wA at *
  have HBA := Lib.hid hbA
  have HP := Lib.hid hP
  have hsA := hbA.size
  clear hbA hP
  go_loopw [3] (fun vi wr => ∃ i : Nat, i ≤ n ∧ vi = .int .i64 i ∧ okFs (pfs.take i) ∧ Below wA.heap.size wA wr) (fun i _ => n - (intOf i).toNat)
  case atStart => exact ⟨0, Nat.zero_le _, rfl, by simpa using okFs.nil, Below.refl _ _⟩
  case round =>
    obtain ⟨i, hin, rfl, hok, hbl⟩ := hrel
    have HOK := Lib.hid hok
    have HBL := Lib.hid hbl
    have hws := hbl.size
    clear hok hbl
    obtain ⟨w7, hw7⟩ : ∃ w7, w7 = wr := ⟨_, rfl⟩
    subst hw7
    have c1 := (HP.out.kw HBL.out (by omega)).cells.2
    dsimp only at c1
    rw [HN.out] at c1
    have hl1 : w.heap.size < w7.heap.size := by omega
    by_cases hi : i < n
    · have hi0 : (0 : Int) ≤ (i : Int) := by omega
      have hi1' : (i : Int) < (n : Int) := by omega
      obtain ⟨b1, o1, rfl, hb1, _, hc1⟩ := HA.out (by rw [HN.out]; omega)
      obtain ⟨y0, y1, y2, y3⟩ := hc1 i (by rw [HN.out]; exact hi)
      have hsu := take_snocS (l := pfs) (i := i) (by rw [HN.out]; exact hi)
      have hfm := getS_mem (l := pfs) (i := i) (by rw [HN.out]; exact hi)
      obtain ⟨f, hf⟩ : ∃ f, pfs.getD i zeroS = f := ⟨_, rfl⟩
      rw [hf] at y0 y1 y2 y3 hsu hfm
      have HW7 := Lib.hid (HBA.out.trans (HBL.out.mono hsA))
      have y0 := (HW7.out.cell (p := ⟨b1, o1 + i * 4, none⟩) hb1).trans y0
      have y1 := (HW7.out.cell (p := ⟨b1, o1 + i * 4 + 1, none⟩) hb1).trans y1
      have y2 := (HW7.out.cell (p := ⟨b1, o1 + i * 4 + 2, none⟩) hb1).trans y2
      have y3 := (HW7.out.cell (p := ⟨b1, o1 + i * 4 + 3, none⟩) hb1).trans y3
      have hb7 : b1 < w7.heap.size := by omega
      have HSU := Lib.hid hsu
      have HFM := Lib.hid hfm
      have bE := BoxS.new w7 f
      have HBE := Lib.hid (HBL.out.alloc HBL.out.size (Obj.cells #[.int .u64 f.tb, .int .i64 f.sz, .int .u32 f.sm, .int .u64 f.nm] 36))
      have hsE : (w7.alloc (Obj.cells #[.int .u64 f.tb, .int .i64 f.sz, .int .u32 f.sm, .int .u64 f.nm] 36)).heap.size = w7.heap.size + 1 := by simp
      have HBX := Lib.hid bE
      clear hsu hfm hf hc1 bE
      by_cases hof : okF f
      · obtain ⟨t1, t2, t3, t4, t5, t6⟩ := okF_all hof
        have HOF := Lib.hid hof
        clear hof
        go_wp2_with (fail)
        generalize (w7.alloc (Obj.cells #[.int .u64 f.tb, .int .i64 f.sz, .int .u32 f.sm, .int .u64 f.nm] 36)) = wE at *
        go_loopw [5] (fun vk wr => ∃ k : Nat, k ≤ i ∧ vk = .int .i64 k ∧ (∀ g ∈ pfs.take k, g.tb ≠ f.tb ∧ g.nm ≠ f.nm) ∧ Below wE.heap.size wE wr) (fun k _ => i - (intOf k).toNat)
        case atStart => exact ⟨0, Nat.zero_le _, rfl, by simp, Below.refl _ _⟩
        case round =>
          obtain ⟨k, hki, rfl, hnk, hbk⟩ := hrel
          have HNK := Lib.hid hnk
          have hwk := hbk.size
          have HWE := Lib.hid (show Below wA.heap.size wA wr from HBE.out.trans (hbk.mono HBE.out.size))
          obtain ⟨v0, v1, v2, v3⟩ := (HBX.out.kw hbk (by omega)).cells
          have HBK := Lib.hid (show Below wA.heap.size wA wr from HBE.out.trans (hbk.mono HBE.out.size))
          have HB0 := Lib.hid hbk
          clear hnk hbk c1 y0 y1 y2 y3
          have c1 := (HP.out.kw HBK.out (by omega)).cells.2
          dsimp only at c1
          rw [HN.out] at c1
          have hl1 : w.heap.size < wr.heap.size := by omega
          have hl7 : w7.heap.size < wr.heap.size := by omega
          by_cases hk : k < i
          · have hk0 : (0 : Int) ≤ (k : Int) := by omega
            have hk1 : (k : Int) < (i : Int) := by omega
            have hk2 : (k : Int) < (n : Int) := by omega
            obtain ⟨b2, o2, hbe, hb2, _, hc2⟩ := HA.out (by rw [HN.out]; omega)
            cases hbe
            obtain ⟨z0, z1, z2, z3⟩ := hc2 k (by rw [HN.out]; omega)
            have hsk := take_snocS (l := pfs) (i := k) (by rw [HN.out]; omega)
            have hgm := take_mem (l := pfs) hk (by rw [HN.out]; omega)
            obtain ⟨g, hg⟩ : ∃ g, pfs.getD k zeroS = g := ⟨_, rfl⟩
            rw [hg] at z0 z1 z2 z3 hsk hgm
            have HWR := Lib.hid (HBA.out.trans (HBK.out.mono hsA))
            have z0 := ext_cell ((HWR.out.cell (p := ⟨b1, o1 + k * 4, none⟩) hb2).trans z0)
            have z3 := ext_cell ((HWR.out.cell (p := ⟨b1, o1 + k * 4 + 3, none⟩) hb2).trans z3)
            have e1 := ext_cell c1
            have v0 := ext_cell v0
            have v3 := ext_cell v3
            have HSK := Lib.hid hsk
            have HGM := Lib.hid hgm
            have hno : (g.tb = f.tb ∨ g.nm = f.nm) → Hid (res = false) := fun h => Lib.hid (HF.out (fun ho => by
              have h1 := ho.take (i + 1)
              rw [HSU.out] at h1
              obtain ⟨_, _, h2, h3⟩ := okFs_snoc.1 h1
              rcases h with h | h
              · exact h2 (List.mem_map.2 ⟨g, HGM.out, h⟩)
              · exact h3 (List.mem_map.2 ⟨g, HGM.out, h⟩)))
            have hgo : g.tb ≠ f.tb → g.nm ≠ f.nm → Hid (∀ g ∈ pfs.take (k + 1), g.tb ≠ f.tb ∧ g.nm ≠ f.nm) := fun h1 h2 => Lib.hid (by
              rw [HSK.out]
              intro g' hg'
              rcases List.mem_append.1 hg' with h' | h'
              · exact HNK.out g' h'
              · rw [List.mem_singleton.1 h']
                exact ⟨h1, h2⟩)
            clear hc2 hg hsk hgm z1 z2
            by_cases htb : g.tb = f.tb
            · have HV := hno (.inl htb)
              clear hgo hno
              rw [htb] at z0
              clear htb
              go_wp2_with (fail)
              refine wp_region_ext (by kernel_rfl) (by kernel_rfl) ?_
              repeat (first | fail | go_big_quiet_step (fail))
              refine wpQuiet_nil ?_
              rintro w8 ⟨⟨_, hb8⟩, rfl⟩
              have HB8 := Lib.hid (HBK.out.trans (hb8.mono HBK.out.size))
              have HB9 := Lib.hid (HB0.out.trans (hb8.mono HB0.out.size))
              clear hb8
              go_wp2_with (fail)
              go_ret
              exact ⟨by rw [HV.out]; rfl, HBA.out.trans (HB8.out.mono hsA)⟩
            · have H0 : Hid ((g.tb == f.tb) = false) := Lib.hid (by simpa using htb)
              have H1 : Hid (decide (g.tb = f.tb) = false) := dec_f htb
              by_cases hnm : g.nm = f.nm
              · have HV := hno (.inr hnm)
                clear hgo hno
                rw [hnm] at z3
                clear hnm
                go_wp2_with (fail)
                refine wp_region_ext (by kernel_rfl) (by kernel_rfl) ?_
                repeat (first | rw [H0.out] | rw [H1.out] | go_big_quiet_step (fail))
                refine wpQuiet_nil ?_
                rintro w8 ⟨⟨_, hb8⟩, rfl⟩
                have HB8 := Lib.hid (HBK.out.trans (hb8.mono HBK.out.size))
                have HB9 := Lib.hid (HB0.out.trans (hb8.mono HB0.out.size))
                clear hb8
                go_wp2_with (fail)
                go_ret
                exact ⟨by rw [HV.out]; rfl, HBA.out.trans (HB8.out.mono hsA)⟩
              · have HV := hgo htb hnm
                clear hgo hno
                have H2 : Hid ((g.nm == f.nm) = false) := Lib.hid (by simpa using hnm)
                have H3 : Hid (decide (g.nm = f.nm) = false) := dec_f hnm
                go_wp2_with (fail)
                refine wp_region_ext (by kernel_rfl) (by kernel_rfl) ?_
                repeat (first | rw [H0.out] | rw [H1.out] | rw [H2.out] | rw [H3.out] | go_big_quiet_step (fail))
                refine wpQuiet_nil ?_
                rintro w8 ⟨⟨_, hb8⟩, rfl⟩
                have HB8 := Lib.hid (HBK.out.trans (hb8.mono HBK.out.size))
                have HB9 := Lib.hid (HB0.out.trans (hb8.mono HB0.out.size))
                clear hb8
                go_wp2_with (fail)
                go_roundw
                case rel => exact ⟨k + 1, by omega, by first | rfl | (push_cast; rfl) | go_num, HV.out, HB9.out⟩
                case measure => simp [intOf]; omega
          · have hke : i = k := by omega
            subst hke
            have hirr : ¬ (i : Int) < (i : Int) := by omega
            have HV : Hid (okFs (pfs.take (i + 1))) := Lib.hid (by
              rw [HSU.out]
              refine okFs_snoc.2 ⟨HOK.out, HOF.out, fun h => ?_, fun h => ?_⟩
              · obtain ⟨g, hg, e⟩ := List.mem_map.1 h
                exact (HNK.out g hg).1 e
              · obtain ⟨g, hg, e⟩ := List.mem_map.1 h
                exact (HNK.out g hg).2 e)
            go_wp2_with (fail)
            go_roundw
            case rel => exact ⟨i + 1, by omega, by first | rfl | (push_cast; rfl) | go_num, HV.out, HBK.out⟩
            case measure => simp [intOf]; omega
      · have HV : Hid (res = false) := Lib.hid (HF.out (fun ho => hof (ho.1 f HFM.out)))
        have hpt := okF_parts hof
        clear hof HBX
        rcases hpt with t1 | ⟨t1, t2⟩ | ⟨t1, t2, t3⟩ | ⟨t1, t2, t3, t4⟩ | ⟨t1, t2, t3, t4, t5⟩ | ⟨t1, t2, t3, t4, t5, t6⟩
        · go_wp2_with (fail)
          go_ret
          exact ⟨by rw [HV.out]; rfl, HBA.out.trans (HBE.out.mono hsA)⟩
        · go_wp2_with (fail)
          go_ret
          exact ⟨by rw [HV.out]; rfl, HBA.out.trans (HBE.out.mono hsA)⟩
        · go_wp2_with (fail)
          go_ret
          exact ⟨by rw [HV.out]; rfl, HBA.out.trans (HBE.out.mono hsA)⟩
        · go_wp2_with (fail)
          go_ret
          exact ⟨by rw [HV.out]; rfl, HBA.out.trans (HBE.out.mono hsA)⟩
        · go_wp2_with (fail)
          go_ret
          exact ⟨by rw [HV.out]; rfl, HBA.out.trans (HBE.out.mono hsA)⟩
        · go_wp2_with (fail)
          go_ret
          exact ⟨by rw [HV.out]; rfl, HBA.out.trans (HBE.out.mono hsA)⟩
    · have hine : n = i := by omega
      subst hine
      have hirr : ¬ (n : Int) < (n : Int) := by omega
      have HV : Hid (res = true) := Lib.hid (HT.out (by have := HOK.out; rwa [List.take_of_length_le (by rw [HN.out]; exact Nat.le_refl _)] at this))
      go_wp2_with (fail)
      go_ret
      exact ⟨by rw [HV.out]; rfl, HBA.out.trans (HBL.out.mono hsA)⟩
theorem rmay_any (p : Pt) (w : World) (hA : RdS w w.heap.size p.A p.fs) :
    Calls Try.prog 33 #[ptV p] w fun e w' => e = .returned (.bool (mayB p)) ∧ Below w.heap.size w w' := by
  by_cases h : okN p.id ∧ p.fs.length ≤ 256
  · exact rmay_loop p _ w rfl h.1 h.2 hA
  · rw [mayB_f (fun e => h ⟨e.1, e.2.1⟩)]
    exact rmay_bad p _ w rfl (by unfold okN at h; omega)
end Go.Proofs.Ytmalcekbhnkfgaa
namespace Go.Proofs.Ytmalcekbhnkfgaa
open Go.RowKit Go.Maps Go.Shelf
set_option linter.unusedVariables false
set_option linter.unusedSimpArgs false

theorem allF_snoc (l : List Pt) (p : Pt) : allF (l ++ [p]) = allF l ++ p.fs := by
  unfold allF
  rw [flat_append]
  simp [flat, Function.comp_def]
theorem mem_flat {l : List Pt} {f : Sh} {k : Nat} : f ∈ (flat k l).map Prod.snd ↔ ∃ p ∈ l, f ∈ p.fs := by
  induction l generalizing k with
  | nil => simp [flat]
  | cons p l ih =>
    have h := ih (k := k + 1)
    simp only [flat, List.map_append, List.mem_append, h, List.map_map]
    simp [Function.comp_def]
theorem mem_allF {l : List Pt} {f : Sh} : f ∈ allF l ↔ ∃ p ∈ l, f ∈ p.fs := mem_flat
theorem noClash_append {L M : List Sh} : noClash (L ++ M) ↔ noClash L ∧ noClash M ∧ ¬ clashL L M := by
  constructor
  · intro h
    refine ⟨fun f hf g hg => h f (List.mem_append_left _ hf) g (List.mem_append_left _ hg), fun f hf g hg => h f (List.mem_append_right _ hf) g (List.mem_append_right _ hg), ?_⟩
    rintro ⟨f, hf, g, hg, e1, e2⟩
    exact e2 (h f (List.mem_append_left _ hf) g (List.mem_append_right _ hg) e1)
  · rintro ⟨h1, h2, h3⟩ f hf g hg e
    rcases List.mem_append.1 hf with hf | hf <;> rcases List.mem_append.1 hg with hg | hg
    · exact h1 f hf g hg e
    · exact Classical.byContradiction fun hn => h3 ⟨f, hf, g, hg, e, hn⟩
    · exact Classical.byContradiction fun hn => h3 ⟨g, hg, f, hf, e.symm, fun h => hn h.symm⟩
    · exact h2 f hf g hg e
theorem nodup_nm {l : List Sh} (h : (l.map Sh.nm).Nodup) {f g : Sh} (hf : f ∈ l) (hg : g ∈ l) (e : f.nm = g.nm) : f = g := by
  induction l with
  | nil => simp at hf
  | cons a l ih =>
    simp only [List.map_cons, List.nodup_cons] at h
    rcases List.mem_cons.1 hf with h1 | h1
    · rcases List.mem_cons.1 hg with h2 | h2
      · rw [h1, h2]
      · exact absurd (List.mem_map.2 ⟨g, h2, by rw [← e, h1]⟩) h.1
    · rcases List.mem_cons.1 hg with h2 | h2
      · exact absurd (List.mem_map.2 ⟨f, h1, by rw [e, h2]⟩) h.1
      · exact ih h.2 h1 h2
theorem noClash_ok {l : List Sh} (h : okFs l) : noClash l := fun f hf g hg e => nodup_nm h.2.2 hf hg e
set_option maxHeartbeats 1000000 in
theorem rright_many (A : Option Addr) (n c : Nat) (w : World) (hn : 16 < n) :
    Calls Try.prog 17 #[.slice A n c] w fun e w' => e = .returned (.bool false) ∧ Below w.heap.size w w' := by
  have hi : (16 : Int) < (n : Int) := by omega
  clear hn
  go_enter Try.func17, Try.ntmps17
  go_wp2_with (fail)
  go_ret
  exact ⟨rfl, Below.refl _ _⟩
set_option maxRecDepth 100000 in
set_option maxHeartbeats 8000000 in
theorem rright_few (A : Option Addr) (n c : Nat) (l : List Pt) (w : World) (hl : l.length = n) (hn : n ≤ 16) (hA : RdP w w.heap.size A l) :
    Calls Try.prog 17 #[.slice A n c] w fun e w' => e = .returned (.bool (rightB l)) ∧ Below w.heap.size w w' := by
  have hde : ¬ (16 : Int) < (n : Int) := by omega
  have HLN := Lib.hid hl
  have HA := Lib.hid hA
  clear hl hA
  go_enter Try.func17, Try.ntmps17
  go_wp2_with (fail)
  go_loopw [3] (fun vi wr => ∃ i : Nat, i ≤ n ∧ vi = .int .i64 i ∧ ((∀ p ∈ l.take i, mayP p) ∧ idsUp (l.take i) ∧ noClash (allF (l.take i))) ∧ Below w.heap.size w wr) (fun i _ => n - (intOf i).toNat)
  case atStart => exact ⟨0, Nat.zero_le _, rfl, ⟨by simp, by simp [idsUp], by simp [allF, flat, noClash]⟩, Below.refl _ _⟩
  case round =>
    obtain ⟨i, hin, rfl, hok, hbl⟩ := hrel
    have HOK := Lib.hid hok
    have HBL := Lib.hid hbl
    have hws := hbl.size
    clear hok hbl
    obtain ⟨w7, hw7⟩ : ∃ w7, w7 = wr := ⟨_, rfl⟩
    subst hw7
    by_cases hi : i < n
    · have hi0 : (0 : Int) ≤ (i : Int) := by omega
      have hi1 : (i : Int) < (n : Int) := by omega
      have hil : i < l.length := by rw [HLN.out]; exact hi
      obtain ⟨b, off, rfl, hb, _, hc⟩ := HA.out.1 (by omega)
      obtain ⟨a0, a1⟩ := hc i hil
      obtain ⟨hrd, _⟩ := HA.out.2 _ (getP_mem hil)
      obtain ⟨p, hp⟩ : ∃ p, l.getD i zeroP = p := ⟨_, rfl⟩
      rw [hp] at a0 a1 hrd
      have hbw : b < w7.heap.size := by omega
      have HP := Lib.hid hp
      have HIL := Lib.hid hil
      have HRD := Lib.hid hrd
      have HC := Lib.hid hc
      clear hp hrd hc hil
      obtain ⟨pid, pfs, pA, pc⟩ := p
      dsimp only at *
      have A0 := Lib.hid a0
      have A1 := Lib.hid a1
      have e0 := ext_cell ((HBL.out.cell (p := ⟨b, off + i * 2, none⟩) hb).trans a0)
      have e1 := ext_cell ((HBL.out.cell (p := ⟨b, off + i * 2 + 1, none⟩) hb).trans a1)
      clear a0 a1
      have HM : Hid (∀ X : Ext w7, Calls Try.prog 33 #[.agg #[.int .u64 pid, .slice pA pfs.length pc]] X.val fun e w' => e = .returned (.bool (mayB ⟨pid, pfs, pA, pc⟩)) ∧ Below X.val.heap.size X.val w') := Lib.hid fun X => by
        have hX := HBL.out.trans (X.bl.mono hws)
        exact rmay_any ⟨pid, pfs, pA, pc⟩ X.val ((HRD.out.below hX).more hX.size (Nat.le_refl _))
      go_wp2_with (fail)
      by_cases hmy : mayP ⟨pid, pfs, pA, pc⟩
      · have hmt := mayB_t hmy
        have HMY := Lib.hid hmy
        rw [hmt] at HM
        clear hmt hmy
        by_cases hi00 : i = 0
        · have H0 : Hid (decide ((0 : Int) < (i : Int)) = false) := dec_f (by omega)
          have H0n : Hid (decide (0 < i) = false) := dec_f (by omega)
          have HV0 : Hid ((∀ q ∈ l.take (i + 1), mayP q) ∧ idsUp (l.take (i + 1))) := Lib.hid ⟨by
            rw [take_snocP HIL.out, HP.out]
            intro q hq
            rcases List.mem_append.1 hq with h | h
            · exact HOK.out.1 q h
            · rw [List.mem_singleton.1 h]; exact HMY.out, (idsUp_snoc HIL.out HOK.out.2.1).2 (fun h => by omega)⟩
          clear hi00
          refine wp_region_ext (by kernel_rfl) (by kernel_rfl) ?_
          repeat (first | rw [H0.out] | rw [H0n.out] | go_big_quiet_step ((go_at_call 33; exact ext_calls (HM.out _))))
          refine wpQuiet_nil ?_
          rintro w2 ⟨⟨_, hb2⟩, rfl⟩
          have hs2 := hb2.size
          have HB2 := Lib.hid (HBL.out.trans (hb2.mono hws))
          clear hb2 e0 e1
          go_wp2_with (fail)
          go_loopw [4] (fun vk wr => ∃ k : Nat, k ≤ i ∧ vk = .int .i64 k ∧ (∀ j, j < k → ¬ clashL (l.getD j zeroP).fs pfs) ∧ Below w.heap.size w wr) (fun k _ => i - (intOf k).toNat)
          case atStart => exact ⟨0, Nat.zero_le _, rfl, fun j hj => by omega, HB2.out⟩
          case round =>
            obtain ⟨k, hki, rfl, hnk, hbk⟩ := hrel
            have HNK := Lib.hid hnk
            have HBK := Lib.hid hbk
            have hwk := hbk.size
            clear hnk hbk
            by_cases hk : k < i
            · have hk0 : (0 : Int) ≤ (k : Int) := by omega
              have hk1 : (k : Int) < (i : Int) := by omega
              have hk2 : (k : Int) < (n : Int) := by omega
              have hkl : k < l.length := by rw [HLN.out]; omega
              obtain ⟨g0, g1⟩ := HC.out k hkl
              have hqm := getP_mem hkl
              have hqr := (HA.out.2 _ hqm).1
              have hq2 : (l.getD k zeroP).fs.length ≤ 1000000 := by
                have h1 : l.getD k zeroP ∈ l.take i := by rw [getP hkl]; exact List.mem_take_iff_getElem.2 ⟨k, by omega, rfl⟩
                have h2 := (HOK.out.1 _ h1).2.1
                omega
              obtain ⟨q, hq⟩ : ∃ q, l.getD k zeroP = q := ⟨_, rfl⟩
              rw [hq] at g0 g1 hqr hq2 hqm
              have HQ := Lib.hid hq
              have HQM := Lib.hid hqm
              have t0 := ext_cell ((HBK.out.cell (p := ⟨b, off + k * 2, none⟩) hb).trans g0)
              have t1 := ext_cell ((HBK.out.cell (p := ⟨b, off + k * 2 + 1, none⟩) hb).trans g1)
              have e0 := ext_cell ((HBK.out.cell (p := ⟨b, off + i * 2, none⟩) hb).trans A0.out)
              have e1 := ext_cell ((HBK.out.cell (p := ⟨b, off + i * 2 + 1, none⟩) hb).trans A1.out)
              have HL : Hid (∀ X : Ext wr, Calls Try.prog 34 #[.agg #[.int .u64 q.id, .slice q.A q.fs.length q.c], .agg #[.int .u64 pid, .slice pA pfs.length pc]] X.val fun e w' => e = .returned (.bool (clashB q.fs pfs)) ∧ Below X.val.heap.size X.val w') := Lib.hid fun X => by
                have hX := HBK.out.trans (X.bl.mono hwk)
                exact clash_any q ⟨pid, pfs, pA, pc⟩ X.val hq2 (by have := HMY.out.2.1; dsimp only at this ⊢; omega) ((hqr.below hX).more hX.size (Nat.le_refl _)) ((HRD.out.below hX).more hX.size (Nat.le_refl _))
              clear hq hqr hqm g0 g1 hq2 hkl
              by_cases hcl : clashL q.fs pfs
              · have HU : Hid (rightB l = false) := Lib.hid (rightB_f (fun h => by
                  obtain ⟨f, hf, g, hg, e1, e2⟩ := hcl
                  have hpm := getP_mem HIL.out
                  rw [HP.out] at hpm
                  exact e2 (h.2.2.2 f (mem_allF.2 ⟨q, HQM.out, hf⟩) g (mem_allF.2 ⟨_, hpm, hg⟩) e1)))
                rw [clashB_t hcl] at HL
                clear hcl
                go_wp2_with (fail)
                refine wp_region_ext (by kernel_rfl) (by kernel_rfl) ?_
                repeat (go_big_quiet_step ((go_at_call 34; exact ext_calls (HL.out _))))
                refine wpQuiet_nil ?_
                rintro w8 ⟨⟨_, hb8⟩, rfl⟩
                have HB8 := Lib.hid (HBK.out.trans (hb8.mono hwk))
                clear hb8
                go_wp2_with (fail)
                go_ret
                exact ⟨by rw [HU.out]; rfl, HB8.out⟩
              · have HV : Hid (∀ j, j < k + 1 → ¬ clashL (l.getD j zeroP).fs pfs) := Lib.hid (fun j hj => by
                  by_cases hjk : j = k
                  · rw [hjk, HQ.out]
                    exact hcl
                  · exact HNK.out j (by omega))
                rw [clashB_f hcl] at HL
                clear hcl
                go_wp2_with (fail)
                refine wp_region_ext (by kernel_rfl) (by kernel_rfl) ?_
                repeat (go_big_quiet_step ((go_at_call 34; exact ext_calls (HL.out _))))
                refine wpQuiet_nil ?_
                rintro w8 ⟨⟨_, hb8⟩, rfl⟩
                have HB8 := Lib.hid (HBK.out.trans (hb8.mono hwk))
                clear hb8
                go_wp2_with (fail)
                go_roundw
                case rel => exact ⟨k + 1, by omega, by first | rfl | (push_cast; rfl) | go_num, HV.out, HB8.out⟩
                case measure => simp [intOf]; omega
            · have hke : i = k := by omega
              subst hke
              have hirr : ¬ (i : Int) < (i : Int) := by omega
              have HW : Hid (noClash (allF (l.take (i + 1)))) := Lib.hid (by
                rw [take_snocP HIL.out, allF_snoc, HP.out]
                refine noClash_append.2 ⟨HOK.out.2.2, noClash_ok HMY.out.2.2, ?_⟩
                rintro ⟨f, hf, g, hg, e1, e2⟩
                obtain ⟨q, hq, hfq⟩ := mem_allF.1 hf
                obtain ⟨j, hj, rfl⟩ := List.mem_take_iff_getElem.1 hq
                refine HNK.out j (by omega) ⟨f, ?_, g, hg, e1, e2⟩
                rw [getP (show j < l.length by omega)]
                exact hfq)
              go_wp2_with (fail)
              go_roundw
              case rel => exact ⟨i + 1, by omega, by first | rfl | (push_cast; rfl) | go_num, ⟨HV0.out.1, HV0.out.2, HW.out⟩, HBK.out⟩
              case measure => simp [intOf]; omega
        · have H0 : Hid (decide ((0 : Int) < (i : Int)) = true) := dec_t (by omega)
          have H0n : Hid (decide (0 < i) = true) := dec_t (by omega)
          have hj0 : (0 : Int) ≤ (i : Int) - 1 := by omega
          have hj1 : (i : Int) - 1 < (n : Int) := by omega
          have hjn : ((i : Int) - 1).toNat = i - 1 := by omega
          have hprev := (HC.out (i - 1) (by rw [HLN.out]; omega)).1
          obtain ⟨v, hv⟩ : ∃ v, (l.getD (i - 1) zeroP).id = v := ⟨_, rfl⟩
          rw [hv] at hprev
          have HVV := Lib.hid hv
          have e2 := ext_cell ((HBL.out.cell (p := ⟨b, off + (i - 1) * 2, none⟩) hb).trans hprev)
          clear hv hprev
          by_cases hge : pid ≤ v
          · have H1 : Hid (decide (pid ≤ v) = true) := dec_t hge
            have HU : Hid (rightB l = false) := Lib.hid (rightB_f (fun h => by
              have h3 := (idsUp_snoc HIL.out HOK.out.2.1).1 (h.2.2.1.take (i + 1)) (by omega)
              rw [HVV.out, HP.out] at h3
              exact absurd h3 (by dsimp only; omega)))
            clear hge hi00
            refine wp_region_ext (by kernel_rfl) (by kernel_rfl) ?_
            repeat (first | rw [H0.out] | rw [H0n.out] | rw [H1.out] | go_big_quiet_step ((go_at_call 33; exact ext_calls (HM.out _))))
            refine wpQuiet_nil ?_
            rintro w2 ⟨⟨_, hb2⟩, rfl⟩
            have hs2 := hb2.size
            have HB2 := Lib.hid (HBL.out.trans (hb2.mono hws))
            clear hb2 e0 e1
            go_wp2_with (fail)
            go_ret
            exact ⟨by rw [HU.out]; rfl, HB2.out⟩
          · have H1 : Hid (decide (pid ≤ v) = false) := dec_f hge
            have HV0 : Hid ((∀ q ∈ l.take (i + 1), mayP q) ∧ idsUp (l.take (i + 1))) := Lib.hid ⟨by
              rw [take_snocP HIL.out, HP.out]
              intro q hq
              rcases List.mem_append.1 hq with h | h
              · exact HOK.out.1 q h
              · rw [List.mem_singleton.1 h]; exact HMY.out, (idsUp_snoc HIL.out HOK.out.2.1).2 (fun h => by rw [HVV.out, HP.out]; dsimp only; omega)⟩
            clear hge hi00
            refine wp_region_ext (by kernel_rfl) (by kernel_rfl) ?_
            repeat (first | rw [H0.out] | rw [H0n.out] | rw [H1.out] | go_big_quiet_step ((go_at_call 33; exact ext_calls (HM.out _))))
            refine wpQuiet_nil ?_
            rintro w2 ⟨⟨_, hb2⟩, rfl⟩
            have hs2 := hb2.size
            have HB2 := Lib.hid (HBL.out.trans (hb2.mono hws))
            clear hb2 e0 e1
            go_wp2_with (fail)
            go_loopw [4] (fun vk wr => ∃ k : Nat, k ≤ i ∧ vk = .int .i64 k ∧ (∀ j, j < k → ¬ clashL (l.getD j zeroP).fs pfs) ∧ Below w.heap.size w wr) (fun k _ => i - (intOf k).toNat)
            case atStart => exact ⟨0, Nat.zero_le _, rfl, fun j hj => by omega, HB2.out⟩
            case round =>
              obtain ⟨k, hki, rfl, hnk, hbk⟩ := hrel
              have HNK := Lib.hid hnk
              have HBK := Lib.hid hbk
              have hwk := hbk.size
              clear hnk hbk
              by_cases hk : k < i
              · have hk0 : (0 : Int) ≤ (k : Int) := by omega
                have hk1 : (k : Int) < (i : Int) := by omega
                have hk2 : (k : Int) < (n : Int) := by omega
                have hkl : k < l.length := by rw [HLN.out]; omega
                obtain ⟨g0, g1⟩ := HC.out k hkl
                have hqm := getP_mem hkl
                have hqr := (HA.out.2 _ hqm).1
                have hq2 : (l.getD k zeroP).fs.length ≤ 1000000 := by
                  have h1 : l.getD k zeroP ∈ l.take i := by rw [getP hkl]; exact List.mem_take_iff_getElem.2 ⟨k, by omega, rfl⟩
                  have h2 := (HOK.out.1 _ h1).2.1
                  omega
                obtain ⟨q, hq⟩ : ∃ q, l.getD k zeroP = q := ⟨_, rfl⟩
                rw [hq] at g0 g1 hqr hq2 hqm
                have HQ := Lib.hid hq
                have HQM := Lib.hid hqm
                have t0 := ext_cell ((HBK.out.cell (p := ⟨b, off + k * 2, none⟩) hb).trans g0)
                have t1 := ext_cell ((HBK.out.cell (p := ⟨b, off + k * 2 + 1, none⟩) hb).trans g1)
                have e0 := ext_cell ((HBK.out.cell (p := ⟨b, off + i * 2, none⟩) hb).trans A0.out)
                have e1 := ext_cell ((HBK.out.cell (p := ⟨b, off + i * 2 + 1, none⟩) hb).trans A1.out)
                have HL : Hid (∀ X : Ext wr, Calls Try.prog 34 #[.agg #[.int .u64 q.id, .slice q.A q.fs.length q.c], .agg #[.int .u64 pid, .slice pA pfs.length pc]] X.val fun e w' => e = .returned (.bool (clashB q.fs pfs)) ∧ Below X.val.heap.size X.val w') := Lib.hid fun X => by
                  have hX := HBK.out.trans (X.bl.mono hwk)
                  exact clash_any q ⟨pid, pfs, pA, pc⟩ X.val hq2 (by have := HMY.out.2.1; dsimp only at this ⊢; omega) ((hqr.below hX).more hX.size (Nat.le_refl _)) ((HRD.out.below hX).more hX.size (Nat.le_refl _))
                clear hq hqr hqm g0 g1 hq2 hkl
                by_cases hcl : clashL q.fs pfs
                · have HU : Hid (rightB l = false) := Lib.hid (rightB_f (fun h => by
                    obtain ⟨f, hf, g, hg, e1, e2⟩ := hcl
                    have hpm := getP_mem HIL.out
                    rw [HP.out] at hpm
                    exact e2 (h.2.2.2 f (mem_allF.2 ⟨q, HQM.out, hf⟩) g (mem_allF.2 ⟨_, hpm, hg⟩) e1)))
                  rw [clashB_t hcl] at HL
                  clear hcl
                  go_wp2_with (fail)
                  refine wp_region_ext (by kernel_rfl) (by kernel_rfl) ?_
                  repeat (go_big_quiet_step ((go_at_call 34; exact ext_calls (HL.out _))))
                  refine wpQuiet_nil ?_
                  rintro w8 ⟨⟨_, hb8⟩, rfl⟩
                  have HB8 := Lib.hid (HBK.out.trans (hb8.mono hwk))
                  clear hb8
                  go_wp2_with (fail)
                  go_ret
                  exact ⟨by rw [HU.out]; rfl, HB8.out⟩
                · have HV : Hid (∀ j, j < k + 1 → ¬ clashL (l.getD j zeroP).fs pfs) := Lib.hid (fun j hj => by
                    by_cases hjk : j = k
                    · rw [hjk, HQ.out]
                      exact hcl
                    · exact HNK.out j (by omega))
                  rw [clashB_f hcl] at HL
                  clear hcl
                  go_wp2_with (fail)
                  refine wp_region_ext (by kernel_rfl) (by kernel_rfl) ?_
                  repeat (go_big_quiet_step ((go_at_call 34; exact ext_calls (HL.out _))))
                  refine wpQuiet_nil ?_
                  rintro w8 ⟨⟨_, hb8⟩, rfl⟩
                  have HB8 := Lib.hid (HBK.out.trans (hb8.mono hwk))
                  clear hb8
                  go_wp2_with (fail)
                  go_roundw
                  case rel => exact ⟨k + 1, by omega, by first | rfl | (push_cast; rfl) | go_num, HV.out, HB8.out⟩
                  case measure => simp [intOf]; omega
              · have hke : i = k := by omega
                subst hke
                have hirr : ¬ (i : Int) < (i : Int) := by omega
                have HW : Hid (noClash (allF (l.take (i + 1)))) := Lib.hid (by
                  rw [take_snocP HIL.out, allF_snoc, HP.out]
                  refine noClash_append.2 ⟨HOK.out.2.2, noClash_ok HMY.out.2.2, ?_⟩
                  rintro ⟨f, hf, g, hg, e1, e2⟩
                  obtain ⟨q, hq, hfq⟩ := mem_allF.1 hf
                  obtain ⟨j, hj, rfl⟩ := List.mem_take_iff_getElem.1 hq
                  refine HNK.out j (by omega) ⟨f, ?_, g, hg, e1, e2⟩
                  rw [getP (show j < l.length by omega)]
                  exact hfq)
                go_wp2_with (fail)
                go_roundw
                case rel => exact ⟨i + 1, by omega, by first | rfl | (push_cast; rfl) | go_num, ⟨HV0.out.1, HV0.out.2, HW.out⟩, HBK.out⟩
                case measure => simp [intOf]; omega
      · have hmf := mayB_f hmy
        have HU : Hid (rightB l = false) := Lib.hid (rightB_f (fun h => hmy (by have h1 := h.2.1 _ (getP_mem HIL.out); rwa [HP.out] at h1)))
        rw [hmf] at HM
        clear hmf hmy
        refine wp_region_ext (by kernel_rfl) (by kernel_rfl) ?_
        repeat (first | fail | go_big_quiet_step ((go_at_call 33; exact ext_calls (HM.out _))))
        refine wpQuiet_nil ?_
        rintro w2 ⟨⟨_, hb2⟩, rfl⟩
        have hs2 := hb2.size
        have HB2 := Lib.hid (HBL.out.trans (hb2.mono hws))
        clear hb2 e0 e1
        go_wp2_with (fail)
        go_ret
        exact ⟨by rw [HU.out]; rfl, HB2.out⟩
    · have hine : n = i := by omega
      subst hine
      have hirr : ¬ (n : Int) < (n : Int) := by omega
      have HU : Hid (rightB l = true) := Lib.hid (by
        have h := HOK.out
        rw [List.take_of_length_le (by rw [HLN.out]; exact Nat.le_refl _)] at h
        exact rightB_t ⟨by rw [HLN.out]; exact hn, h.1, h.2.1, h.2.2⟩)
      go_wp2_with (fail)
      go_ret
      exact ⟨by rw [HU.out]; rfl, HBL.out⟩
theorem rright_any (A : Option Addr) (c : Nat) (l : List Pt) (w : World) (hA : RdP w w.heap.size A l) :
    Calls Try.prog 17 #[.slice A l.length c] w fun e w' => e = .returned (.bool (rightB l)) ∧ Below w.heap.size w w' := by
  by_cases hn : l.length ≤ 16
  · exact rright_few A l.length c l w rfl hn hA
  · rw [rightB_f (fun h => hn h.1)]
    exact rright_many A l.length c w (by omega)
end Go.Proofs.Ytmalcekbhnkfgaa
