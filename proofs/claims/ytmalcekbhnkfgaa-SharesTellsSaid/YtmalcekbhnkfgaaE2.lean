/- Contract of ref.SameShares. Conditions: as each theorem states them. -/
import Derived.Test.YtmalcekbhnkfgaaC2
import Derived.Test.YtmalcekbhnkfgaaD2
import Derived.Test.YtmalcekbhnkfgaaD4
namespace Go.Proofs.Ytmalcekbhnkfgaa
open Go.RowKit Go.Maps Go.Shelf
set_option linter.unusedVariables false
set_option linter.unusedSimpArgs false

open Classical in
noncomputable def eqS (a b : List Sh) : Bool := decide (a = b)
theorem eqS_t {a b : List Sh} (h : a = b) : eqS a b = true := by simp [eqS, h]
theorem eqS_f {a b : List Sh} (h : ¬ a = b) : eqS a b = false := by simp [eqS, h]
set_option maxRecDepth 100000 in
set_option maxHeartbeats 2000000 in
theorem sames_len (A A' : Option Addr) (n n' c c' : Nat) (w : World) (h : n ≠ n') :
    Calls Try.prog 35 #[.slice A n c, .slice A' n' c'] w fun e w' => e = .returned (.bool false) ∧ Below w.heap.size w w' := by
  have hne : ¬ (n : Int) = (n' : Int) := by omega
  have hnb : ((n : Int) == (n' : Int)) = false := by simpa using hne
  go_enter Try.func35, Try.ntmps35
  go_wp2_with (fail)
  go_ret
  exact ⟨rfl, Below.refl _ _⟩
set_option maxRecDepth 100000 in
set_option maxHeartbeats 4000000 in
theorem sames_same (A A' : Option Addr) (n c c' : Nat) (a b : List Sh) (w : World) (ha : a.length = n) (hb : b.length = n) (hn : n ≤ 1000000) (hA : RdS w w.heap.size A a) (hB : RdS w w.heap.size A' b) :
    Calls Try.prog 35 #[.slice A n c, .slice A' n c'] w fun e w' => e = .returned (.bool (eqS a b)) ∧ Below w.heap.size w w' := by
  have HA := Lib.hid ha
  have HB := Lib.hid hb
  have HRA := Lib.hid hA
  have HRB := Lib.hid hB
  clear ha hb hA hB
  go_enter Try.func35, Try.ntmps35
  go_wp2_with (fail)
  go_loopw [5] (fun vi wr => ∃ i : Nat, i ≤ n ∧ vi = .int .i64 i ∧ a.take i = b.take i ∧ Below w.heap.size w wr) (fun i _ => n - (intOf i).toNat)
  case atStart => exact ⟨0, Nat.zero_le _, rfl, by simp, Below.refl _ _⟩
  case round =>
    obtain ⟨i, hin, rfl, heq, hbl⟩ := hrel
    have HEQ := Lib.hid heq
    have HBL := Lib.hid hbl
    have hws := hbl.size
    clear heq hbl
    by_cases hi : i < n
    · have hi0 : (0 : Int) ≤ (i : Int) := by omega
      have hi1 : (i : Int) < (n : Int) := by omega
      obtain ⟨b1, o1, rfl, hb1, _, hc1⟩ := HRA.out (by rw [HA.out]; omega)
      obtain ⟨b2, o2, rfl, hb2, _, hc2⟩ := HRB.out (by rw [HB.out]; omega)
      obtain ⟨y0, y1, y2, y3⟩ := hc1 i (by rw [HA.out]; exact hi)
      obtain ⟨z0, z1, z2, z3⟩ := hc2 i (by rw [HB.out]; exact hi)
      have hsa := take_snocS (l := a) (i := i) (by rw [HA.out]; exact hi)
      have hsb := take_snocS (l := b) (i := i) (by rw [HB.out]; exact hi)
      have hga := getS (l := a) (i := i) (by rw [HA.out]; exact hi)
      have hgb := getS (l := b) (i := i) (by rw [HB.out]; exact hi)
      obtain ⟨f, hf⟩ : ∃ f, a.getD i zeroS = f := ⟨_, rfl⟩
      obtain ⟨g, hg⟩ : ∃ g, b.getD i zeroS = g := ⟨_, rfl⟩
      rw [hf] at y0 y1 y2 y3 hsa hga
      rw [hg] at z0 z1 z2 z3 hsb hgb
      have y0 := ext_cell ((HBL.out.cell (p := ⟨b1, o1 + i * 4, none⟩) hb1).trans y0)
      have y1 := ext_cell ((HBL.out.cell (p := ⟨b1, o1 + i * 4 + 1, none⟩) hb1).trans y1)
      have y2 := ext_cell ((HBL.out.cell (p := ⟨b1, o1 + i * 4 + 2, none⟩) hb1).trans y2)
      have y3 := ext_cell ((HBL.out.cell (p := ⟨b1, o1 + i * 4 + 3, none⟩) hb1).trans y3)
      have z0 := ext_cell ((HBL.out.cell (p := ⟨b2, o2 + i * 4, none⟩) hb2).trans z0)
      have z1 := ext_cell ((HBL.out.cell (p := ⟨b2, o2 + i * 4 + 1, none⟩) hb2).trans z1)
      have z2 := ext_cell ((HBL.out.cell (p := ⟨b2, o2 + i * 4 + 2, none⟩) hb2).trans z2)
      have z3 := ext_cell ((HBL.out.cell (p := ⟨b2, o2 + i * 4 + 3, none⟩) hb2).trans z3)
      have HSA := Lib.hid hsa
      have HSB := Lib.hid hsb
      have HN : Hid (¬ f = g → ¬ a = b) := Lib.hid (fun h e => h (by rw [← hf, ← hg, e]))
      clear hc1 hc2 hf hg hsa hsb hga hgb
      by_cases hfg : f = g
      · subst hfg
        have HV : Hid (a.take (i + 1) = b.take (i + 1)) := Lib.hid (by rw [HSA.out, HSB.out, HEQ.out])
        go_wp2_with (fail)
        refine wp_region_ext (by kernel_rfl) (by kernel_rfl) ?_
        repeat (go_big_quiet_step (fail))
        refine wpQuiet_nil ?_
        rintro w8 ⟨⟨_, hb8⟩, rfl⟩
        have HB8 := Lib.hid (HBL.out.trans (hb8.mono HBL.out.size))
        clear hb8
        go_wp2_with (fail)
        go_roundw
        case rel => exact ⟨i + 1, by omega, by first | rfl | (push_cast; rfl) | go_num, HV.out, HB8.out⟩
        case measure => simp [intOf]; omega
      · have HV : Hid (eqS a b = false) := Lib.hid (eqS_f (HN.out hfg))
        have hpt := sh_parts4 hfg
        clear hfg HN HSA HSB
        obtain ⟨gt, gs, gm, gn, g5, g6, g7, g8⟩ := g
        dsimp only at *
        rcases hpt with hne | ⟨rfl, hne⟩ | ⟨rfl, rfl, hne⟩ | ⟨rfl, rfl, rfl, hne⟩
        · go_wp2_with (fail)
          refine wp_region_ext (by kernel_rfl) (by kernel_rfl) ?_
          repeat (go_big_quiet_step (fail))
          refine wpQuiet_nil ?_
          rintro w8 ⟨⟨_, hb8⟩, rfl⟩
          have HB8 := Lib.hid (HBL.out.trans (hb8.mono HBL.out.size))
          clear hb8
          go_wp2_with (fail)
          go_ret
          exact ⟨by rw [HV.out]; rfl, HB8.out⟩
        · go_wp2_with (fail)
          refine wp_region_ext (by kernel_rfl) (by kernel_rfl) ?_
          repeat (go_big_quiet_step (fail))
          refine wpQuiet_nil ?_
          rintro w8 ⟨⟨_, hb8⟩, rfl⟩
          have HB8 := Lib.hid (HBL.out.trans (hb8.mono HBL.out.size))
          clear hb8
          go_wp2_with (fail)
          go_ret
          exact ⟨by rw [HV.out]; rfl, HB8.out⟩
        · go_wp2_with (fail)
          refine wp_region_ext (by kernel_rfl) (by kernel_rfl) ?_
          repeat (go_big_quiet_step (fail))
          refine wpQuiet_nil ?_
          rintro w8 ⟨⟨_, hb8⟩, rfl⟩
          have HB8 := Lib.hid (HBL.out.trans (hb8.mono HBL.out.size))
          clear hb8
          go_wp2_with (fail)
          go_ret
          exact ⟨by rw [HV.out]; rfl, HB8.out⟩
        · go_wp2_with (fail)
          refine wp_region_ext (by kernel_rfl) (by kernel_rfl) ?_
          repeat (go_big_quiet_step (fail))
          refine wpQuiet_nil ?_
          rintro w8 ⟨⟨_, hb8⟩, rfl⟩
          have HB8 := Lib.hid (HBL.out.trans (hb8.mono HBL.out.size))
          clear hb8
          go_wp2_with (fail)
          go_ret
          exact ⟨by rw [HV.out]; rfl, HB8.out⟩
    · have hine : n = i := by omega
      subst hine
      have hirr : ¬ (n : Int) < (n : Int) := by omega
      have HV : Hid (eqS a b = true) := Lib.hid (eqS_t (by have := HEQ.out; rwa [List.take_of_length_le (by rw [HA.out]; exact Nat.le_refl _), List.take_of_length_le (by rw [HB.out]; exact Nat.le_refl _)] at this))
      go_wp2_with (fail)
      go_ret
      exact ⟨by rw [HV.out]; rfl, HBL.out⟩
theorem sames_any (A A' : Option Addr) (c c' : Nat) (a b : List Sh) (w : World) (hn : a.length ≤ 1000000) (hA : RdS w w.heap.size A a) (hB : RdS w w.heap.size A' b) :
    Calls Try.prog 35 #[.slice A a.length c, .slice A' b.length c'] w fun e w' => e = .returned (.bool (eqS a b)) ∧ Below w.heap.size w w' := by
  by_cases h : a.length = b.length
  · rw [← h]
    exact sames_same A A' a.length c c' a b w rfl h.symm hn hA hB
  · rw [eqS_f (fun e => h (by rw [e]))]
    exact sames_len A A' _ _ c c' w h
end Go.Proofs.Ytmalcekbhnkfgaa
namespace Go.Proofs.Ytmalcekbhnkfgaa
open Go.RowKit Go.Maps Go.Shelf
set_option linter.unusedVariables false
set_option linter.unusedSimpArgs false

open Classical in
noncomputable def eqP (a b : List Pt) : Bool := decide (sameP a b)
theorem eqP_t {a b : List Pt} (h : sameP a b) : eqP a b = true := by simp [eqP, h]
theorem eqP_f {a b : List Pt} (h : ¬ sameP a b) : eqP a b = false := by simp [eqP, h]
set_option maxRecDepth 100000 in
set_option maxHeartbeats 2000000 in
theorem same_len (A A' : Option Addr) (n n' c c' : Nat) (w : World) (h : n ≠ n') :
    Calls Try.prog 15 #[.slice A n c, .slice A' n' c'] w fun e w' => e = .returned (.bool false) ∧ Below w.heap.size w w' := by
  have hne : ¬ (n : Int) = (n' : Int) := by omega
  have hnb : ((n : Int) == (n' : Int)) = false := by simpa using hne
  go_enter Try.func15, Try.ntmps15
  go_wp2_with (fail)
  go_ret
  exact ⟨rfl, Below.refl _ _⟩
set_option maxRecDepth 100000 in
set_option maxHeartbeats 4000000 in
theorem same_same (A A' : Option Addr) (n c c' : Nat) (a b : List Pt) (w : World) (ha : a.length = n) (hb : b.length = n) (hn : n ≤ 1000000) (hfn : ∀ p ∈ a, p.fs.length ≤ 1000000) (hA : RdP w w.heap.size A a) (hB : RdP w w.heap.size A' b) :
    Calls Try.prog 15 #[.slice A n c, .slice A' n c'] w fun e w' => e = .returned (.bool (eqP a b)) ∧ Below w.heap.size w w' := by
  have HA := Lib.hid ha
  have HB := Lib.hid hb
  have HFN := Lib.hid hfn
  have HRA := Lib.hid hA
  have HRB := Lib.hid hB
  clear ha hb hA hB hfn
  go_enter Try.func15, Try.ntmps15
  go_wp2_with (fail)
  go_loopw [5] (fun vi wr => ∃ i : Nat, i ≤ n ∧ vi = .int .i64 i ∧ (∀ j, j < i → (a.getD j zeroP).id = (b.getD j zeroP).id ∧ (a.getD j zeroP).fs = (b.getD j zeroP).fs) ∧ Below w.heap.size w wr) (fun i _ => n - (intOf i).toNat)
  case atStart => exact ⟨0, Nat.zero_le _, rfl, fun j hj => by omega, Below.refl _ _⟩
  case round =>
    obtain ⟨i, hin, rfl, heq, hbl⟩ := hrel
    have HEQ := Lib.hid heq
    have HBL := Lib.hid hbl
    have hws := hbl.size
    clear heq hbl
    by_cases hi : i < n
    · have hi0 : (0 : Int) ≤ (i : Int) := by omega
      have hi1 : (i : Int) < (n : Int) := by omega
      obtain ⟨b1, o1, rfl, hb1, _, hc1⟩ := HRA.out.1 (by rw [HA.out]; omega)
      obtain ⟨b2, o2, rfl, hb2, _, hc2⟩ := HRB.out.1 (by rw [HB.out]; omega)
      obtain ⟨y0, y1⟩ := hc1 i (by rw [HA.out]; exact hi)
      obtain ⟨z0, z1⟩ := hc2 i (by rw [HB.out]; exact hi)
      have hpa : a.getD i zeroP ∈ a := getP_mem (by rw [HA.out]; exact hi)
      have hfa := (HRA.out.2 _ hpa).1
      have hfb := (HRB.out.2 _ (getP_mem (l := b) (i := i) (by rw [HB.out]; exact hi))).1
      have hf1 := HFN.out _ hpa
      obtain ⟨p, hp⟩ : ∃ p, a.getD i zeroP = p := ⟨_, rfl⟩
      obtain ⟨q, hq⟩ : ∃ q, b.getD i zeroP = q := ⟨_, rfl⟩
      rw [hp] at y0 y1 hfa hf1
      rw [hq] at z0 z1 hfb
      have y0 := ext_cell ((HBL.out.cell (p := ⟨b1, o1 + i * 2, none⟩) hb1).trans y0)
      have y1 := ext_cell ((HBL.out.cell (p := ⟨b1, o1 + i * 2 + 1, none⟩) hb1).trans y1)
      have z0 := ext_cell ((HBL.out.cell (p := ⟨b2, o2 + i * 2, none⟩) hb2).trans z0)
      have z1 := ext_cell ((HBL.out.cell (p := ⟨b2, o2 + i * 2 + 1, none⟩) hb2).trans z1)
      have HS : Hid (∀ X : Ext wr, Calls Try.prog 35 #[.slice p.A p.fs.length p.c, .slice q.A q.fs.length q.c] X.val fun e w' => e = .returned (.bool (eqS p.fs q.fs)) ∧ Below X.val.heap.size X.val w') := Lib.hid fun X => by
        have hX := HBL.out.trans (X.bl.mono hws)
        exact sames_any p.A q.A p.c q.c p.fs q.fs X.val hf1 ((hfa.below hX).more hX.size (Nat.le_refl _)) ((hfb.below hX).more hX.size (Nat.le_refl _))
      have HN : Hid (¬ (p.id = q.id ∧ p.fs = q.fs) → eqP a b = false) := Lib.hid (fun h => eqP_f (fun e => h (by have := e.2 i (by rw [HB.out]; exact hi); rwa [hp, hq] at this)))
      have HY : Hid ((p.id = q.id ∧ p.fs = q.fs) → ∀ j, j < i + 1 → (a.getD j zeroP).id = (b.getD j zeroP).id ∧ (a.getD j zeroP).fs = (b.getD j zeroP).fs) := Lib.hid (fun h j hj => by
        by_cases hji : j = i
        · rw [hji, hp, hq]
          exact h
        · exact HEQ.out j (by omega))
      clear hc1 hc2 hp hq hpa hfa hfb hf1
      by_cases hid : p.id = q.id
      · by_cases hfs : p.fs = q.fs
        · have HV := Lib.hid (HY.out ⟨hid, hfs⟩)
          rw [eqS_t hfs] at HS
          rw [← hid] at z0
          clear hid hfs HN HY
          go_wp2_with (fail)
          refine wp_region_ext (by kernel_rfl) (by kernel_rfl) ?_
          repeat (go_big_quiet_step ((go_at_call 35; exact ext_calls (HS.out _))))
          refine wpQuiet_nil ?_
          rintro w8 ⟨⟨_, hb8⟩, rfl⟩
          have HB8 := Lib.hid (HBL.out.trans (hb8.mono HBL.out.size))
          clear hb8
          go_wp2_with (fail)
          go_roundw
          case rel => exact ⟨i + 1, by omega, by first | rfl | (push_cast; rfl) | go_num, HV.out, HB8.out⟩
          case measure => simp [intOf]; omega
        · have HV := Lib.hid (HN.out (fun h => hfs h.2))
          rw [eqS_f hfs] at HS
          rw [← hid] at z0
          clear hid hfs HN HY
          go_wp2_with (fail)
          refine wp_region_ext (by kernel_rfl) (by kernel_rfl) ?_
          repeat (go_big_quiet_step ((go_at_call 35; exact ext_calls (HS.out _))))
          refine wpQuiet_nil ?_
          rintro w8 ⟨⟨_, hb8⟩, rfl⟩
          have HB8 := Lib.hid (HBL.out.trans (hb8.mono HBL.out.size))
          clear hb8
          go_wp2_with (fail)
          go_ret
          exact ⟨by rw [HV.out]; rfl, HB8.out⟩
      · have HV := Lib.hid (HN.out (fun h => hid h.1))
        obtain ⟨u, hu⟩ : ∃ u, p.id = u := ⟨_, rfl⟩
        obtain ⟨v, hv⟩ : ∃ v, q.id = v := ⟨_, rfl⟩
        rw [hu] at y0 hid
        rw [hv] at z0 hid
        have H0 : Hid ((u != v) = true) := Lib.hid (by simpa using hid)
        clear HN HY hu hv
        go_wp2_with (fail)
        refine wp_region_ext (by kernel_rfl) (by kernel_rfl) ?_
        repeat (first | rw [H0.out] | go_big_quiet_step (fail))
        refine wpQuiet_nil ?_
        rintro w8 ⟨⟨_, hb8⟩, rfl⟩
        have HB8 := Lib.hid (HBL.out.trans (hb8.mono HBL.out.size))
        clear hb8
        go_wp2_with (fail)
        go_ret
        exact ⟨by rw [HV.out]; rfl, HB8.out⟩
    · have hine : n = i := by omega
      subst hine
      have hirr : ¬ (n : Int) < (n : Int) := by omega
      have HV : Hid (eqP a b = true) := Lib.hid (eqP_t ⟨by rw [HA.out, HB.out], fun j hj => HEQ.out j (by rw [← HB.out]; exact hj)⟩)
      go_wp2_with (fail)
      go_ret
      exact ⟨by rw [HV.out]; rfl, HBL.out⟩
theorem same_any (A A' : Option Addr) (c c' : Nat) (a b : List Pt) (w : World) (hn : a.length ≤ 1000000) (hfn : ∀ p ∈ a, p.fs.length ≤ 1000000) (hA : RdP w w.heap.size A a) (hB : RdP w w.heap.size A' b) :
    Calls Try.prog 15 #[.slice A a.length c, .slice A' b.length c'] w fun e w' => e = .returned (.bool (eqP a b)) ∧ Below w.heap.size w w' := by
  by_cases h : a.length = b.length
  · rw [← h]
    exact same_same A A' a.length c c' a b w rfl h.symm hn hfn hA hB
  · rw [eqP_f (fun e => h e.1)]
    exact same_len A A' _ _ c c' w h
end Go.Proofs.Ytmalcekbhnkfgaa
namespace Go.Proofs.Ytmalcekbhnkfgaa
open Go.RowKit Go.Maps Go.Shelf
set_option linter.unusedVariables false
set_option linter.unusedSimpArgs false

open Classical in
noncomputable def clashB (a b : List Sh) : Bool := decide (clashL a b)
theorem clashB_t {a b : List Sh} (h : clashL a b) : clashB a b = true := by simp [clashB, h]
theorem clashB_f {a b : List Sh} (h : ¬ clashL a b) : clashB a b = false := by simp [clashB, h]
set_option maxRecDepth 100000 in
set_option maxHeartbeats 4000000 in
theorem clash_len (p q : Pt) (n m : Nat) (w : World) (hn : p.fs.length = n) (hm : q.fs.length = m) (hn6 : n ≤ 1000000) (hm6 : m ≤ 1000000) (hA : RdS w w.heap.size p.A p.fs) (hB : RdS w w.heap.size q.A q.fs) :
    Calls Try.prog 34 #[.agg #[.int .u64 p.id, .slice p.A n p.c], .agg #[.int .u64 q.id, .slice q.A m q.c]] w fun e w' => e = .returned (.bool (clashB p.fs q.fs)) ∧ Below w.heap.size w w' := by
  obtain ⟨pid, pfs, PA, pc⟩ := p
  obtain ⟨qid, qfs, QA, qc⟩ := q
  dsimp only at *
  have HA := Lib.hid hA
  have HB := Lib.hid hB
  have HN := Lib.hid hn
  have HM := Lib.hid hm
  have hbA := bl_alloc (bl_alloc (Below.refl w.heap.size w) (Obj.cells #[.int .u64 pid, .slice PA n pc] 26)) (Obj.cells #[.int .u64 qid, .slice QA m qc] 26)
  have hP : BoxP ((w.alloc (Obj.cells #[.int .u64 pid, .slice PA n pc] 26)).alloc (Obj.cells #[.int .u64 qid, .slice QA m qc] 26)) w.heap.size ⟨pid, pfs, PA, pc⟩ := by
    unfold BoxP
    rw [hn]
    exact (Below.heap_alloc _ _ _ (by simp)).trans (World.alloc_heap_new w _)
  have hQ : BoxP ((w.alloc (Obj.cells #[.int .u64 pid, .slice PA n pc] 26)).alloc (Obj.cells #[.int .u64 qid, .slice QA m qc] 26)) (w.heap.size + 1) ⟨qid, qfs, QA, qc⟩ := by
    unfold BoxP
    rw [hm]
    have h := World.alloc_heap_new (w.alloc (Obj.cells #[.int .u64 pid, .slice PA n pc] 26)) (Obj.cells #[.int .u64 qid, .slice QA m qc] 26)
    rwa [World.size_alloc] at h
  have hs : ((w.alloc (Obj.cells #[.int .u64 pid, .slice PA n pc] 26)).alloc (Obj.cells #[.int .u64 qid, .slice QA m qc] 26)).heap.size = w.heap.size + 2 := by simp
  clear hA hB hn hm
  go_enter Try.func34, Try.ntmps34
  go_wp2_with (fail)
  generalize ((w.alloc (Obj.cells #[.int .u64 pid, .slice PA n pc] 26)).alloc (Obj.cells #[.int .u64 qid, .slice QA m qc] 26)) = wA at *
  have HBA := Lib.hid hbA
  have HP := Lib.hid hP
  have HQ := Lib.hid hQ
  have hsA := hbA.size
  clear hbA hP hQ
  go_loopw [5] (fun vi wr => ∃ i : Nat, i ≤ n ∧ vi = .int .i64 i ∧ (¬ clashL (pfs.take i) qfs) ∧ Below wA.heap.size wA wr) (fun i _ => n - (intOf i).toNat)
  case atStart => exact ⟨0, Nat.zero_le _, rfl, by simp [clashL], Below.refl _ _⟩
  case round =>
    obtain ⟨i, hin, rfl, hno, hbl⟩ := hrel
    have HNO := Lib.hid hno
    have HBL := Lib.hid hbl
    have hws := hbl.size
    clear hno hbl
    obtain ⟨w7, hw7⟩ : ∃ w7, w7 = wr := ⟨_, rfl⟩
    subst hw7
    have c1 := (HP.out.kw HBL.out (by omega)).cells.2
    have c2 := (HQ.out.kw HBL.out (by omega)).cells.2
    dsimp only at c1 c2
    rw [HN.out] at c1
    rw [HM.out] at c2
    have hl1 : w.heap.size < w7.heap.size := by omega
    have hl2 : w.heap.size + 1 < w7.heap.size := by omega
    by_cases hi : i < n
    · have hi0 : (0 : Int) ≤ (i : Int) := by omega
      have hi1 : (i : Int) < (n : Int) := by omega
      obtain ⟨b1, o1, rfl, hb1, _, hc1⟩ := HA.out (by rw [HN.out]; omega)
      obtain ⟨y0, y1, y2, y3⟩ := hc1 i (by rw [HN.out]; exact hi)
      have hsu := take_snocS (l := pfs) (i := i) (by rw [HN.out]; exact hi)
      have hfm := getS_mem (l := pfs) (i := i) (by rw [HN.out]; exact hi)
      obtain ⟨f, hf⟩ : ∃ f, pfs.getD i zeroS = f := ⟨_, rfl⟩
      rw [hf] at y0 y1 y2 y3 hsu hfm
      have Y0 := Lib.hid y0
      have Y1 := Lib.hid y1
      have Y2 := Lib.hid y2
      have Y3 := Lib.hid y3
      have HSU := Lib.hid hsu
      have HFM := Lib.hid hfm
      clear y0 y1 y2 y3 hsu hfm hf hc1
      go_wp2_with (fail)
      go_loopw [6] (fun vk wr => ∃ k : Nat, k ≤ m ∧ vk = .int .i64 k ∧ (∀ g ∈ qfs.take k, f.nm = g.nm → f = g) ∧ Below wA.heap.size wA wr) (fun k _ => m - (intOf k).toNat)
      case atStart => exact ⟨0, Nat.zero_le _, rfl, by simp, HBL.out⟩
      case round =>
        obtain ⟨k, hkm, rfl, hnk, hbk⟩ := hrel
        have HNK := Lib.hid hnk
        have HBK := Lib.hid hbk
        have hwk := hbk.size
        clear hnk hbk c1 c2
        have c1 := (HP.out.kw HBK.out (by omega)).cells.2
        have c2 := (HQ.out.kw HBK.out (by omega)).cells.2
        dsimp only at c1 c2
        rw [HN.out] at c1
        rw [HM.out] at c2
        have hl1 : w.heap.size < wr.heap.size := by omega
        have hl2 : w.heap.size + 1 < wr.heap.size := by omega
        by_cases hk : k < m
        · have hk0 : (0 : Int) ≤ (k : Int) := by omega
          have hk1 : (k : Int) < (m : Int) := by omega
          obtain ⟨b2, o2, rfl, hb2, _, hc2⟩ := HB.out (by rw [HM.out]; omega)
          obtain ⟨z0, z1, z2, z3⟩ := hc2 k (by rw [HM.out]; exact hk)
          have hsk := take_snocS (l := qfs) (i := k) (by rw [HM.out]; exact hk)
          have hgm := getS_mem (l := qfs) (i := k) (by rw [HM.out]; exact hk)
          obtain ⟨g, hg⟩ : ∃ g, qfs.getD k zeroS = g := ⟨_, rfl⟩
          rw [hg] at z0 z1 z2 z3 hsk hgm
          have HWR := Lib.hid (HBA.out.trans (HBK.out.mono hsA))
          have z0 := ext_cell ((HWR.out.cell (p := ⟨b2, o2 + k * 4, none⟩) hb2).trans z0)
          have z1 := ext_cell ((HWR.out.cell (p := ⟨b2, o2 + k * 4 + 1, none⟩) hb2).trans z1)
          have z2 := ext_cell ((HWR.out.cell (p := ⟨b2, o2 + k * 4 + 2, none⟩) hb2).trans z2)
          have z3 := ext_cell ((HWR.out.cell (p := ⟨b2, o2 + k * 4 + 3, none⟩) hb2).trans z3)
          have y0 := ext_cell ((HWR.out.cell (p := ⟨b1, o1 + i * 4, none⟩) hb1).trans Y0.out)
          have y1 := ext_cell ((HWR.out.cell (p := ⟨b1, o1 + i * 4 + 1, none⟩) hb1).trans Y1.out)
          have y2 := ext_cell ((HWR.out.cell (p := ⟨b1, o1 + i * 4 + 2, none⟩) hb1).trans Y2.out)
          have y3 := ext_cell ((HWR.out.cell (p := ⟨b1, o1 + i * 4 + 3, none⟩) hb1).trans Y3.out)
          have e1 := ext_cell c1
          have e2 := ext_cell c2
          have HSK := Lib.hid hsk
          have HGM := Lib.hid hgm
          have hgo : (f.nm = g.nm → f = g) → Hid (∀ g ∈ qfs.take (k + 1), f.nm = g.nm → f = g) := fun h => Lib.hid (by
            rw [HSK.out]
            intro g' hg'
            rcases List.mem_append.1 hg' with h' | h'
            · exact HNK.out g' h'
            · rw [List.mem_singleton.1 h']
              exact h)
          clear hc2 hg hsk hgm
          by_cases hnm : f.nm = g.nm
          · by_cases hfg : f = g
            · have HV := hgo (fun _ => hfg)
              subst hfg
              clear hgo hnm
              go_wp2_with (fail)
              refine wp_region_ext (by kernel_rfl) (by kernel_rfl) ?_
              repeat (first | fail | go_big_quiet_step (fail))
              refine wpQuiet_nil ?_
              rintro w8 ⟨⟨_, hb8⟩, rfl⟩
              have HB8 := Lib.hid (HBK.out.trans (hb8.mono HBK.out.size))
              clear hb8
              go_wp2_with (fail)
              go_roundw
              case rel => exact ⟨k + 1, by omega, by first | rfl | (push_cast; rfl) | go_num, HV.out, HB8.out⟩
              case measure => simp [intOf]; omega
            · have HV : Hid (clashB pfs qfs = true) := Lib.hid (clashB_t ⟨f, HFM.out, g, HGM.out, hnm, hfg⟩)
              have hpr := sh_parts hfg hnm
              clear hgo hfg
              obtain ⟨gt, gs, gm, gn, g5, g6, g7, g8⟩ := g
              obtain ⟨ft, fs, fm, fn, f5, f6, f7, f8⟩ := f
              dsimp only at *
              subst hnm
              rcases hpr with hne | ⟨rfl, hne⟩ | ⟨rfl, rfl, hne⟩
              · go_wp2_with (fail)
                refine wp_region_ext (by kernel_rfl) (by kernel_rfl) ?_
                repeat (first | fail | go_big_quiet_step (fail))
                refine wpQuiet_nil ?_
                rintro w8 ⟨⟨_, hb8⟩, rfl⟩
                have HB8 := Lib.hid (HBK.out.trans (hb8.mono HBK.out.size))
                clear hb8
                go_wp2_with (fail)
                go_ret
                exact ⟨by rw [HV.out]; rfl, HBA.out.trans (HB8.out.mono hsA)⟩
              · go_wp2_with (fail)
                refine wp_region_ext (by kernel_rfl) (by kernel_rfl) ?_
                repeat (first | fail | go_big_quiet_step (fail))
                refine wpQuiet_nil ?_
                rintro w8 ⟨⟨_, hb8⟩, rfl⟩
                have HB8 := Lib.hid (HBK.out.trans (hb8.mono HBK.out.size))
                clear hb8
                go_wp2_with (fail)
                go_ret
                exact ⟨by rw [HV.out]; rfl, HBA.out.trans (HB8.out.mono hsA)⟩
              · go_wp2_with (fail)
                refine wp_region_ext (by kernel_rfl) (by kernel_rfl) ?_
                repeat (first | fail | go_big_quiet_step (fail))
                refine wpQuiet_nil ?_
                rintro w8 ⟨⟨_, hb8⟩, rfl⟩
                have HB8 := Lib.hid (HBK.out.trans (hb8.mono HBK.out.size))
                clear hb8
                go_wp2_with (fail)
                go_ret
                exact ⟨by rw [HV.out]; rfl, HBA.out.trans (HB8.out.mono hsA)⟩
          · have HV := hgo (fun e => absurd e hnm)
            clear hgo
            have H0 : Hid ((f.nm == g.nm) = false) := Lib.hid (by simpa using hnm)
            have H1 : Hid (decide (f.nm = g.nm) = false) := dec_f hnm
            go_wp2_with (fail)
            refine wp_region_ext (by kernel_rfl) (by kernel_rfl) ?_
            repeat (first | rw [H0.out] | rw [H1.out] | go_big_quiet_step (fail))
            refine wpQuiet_nil ?_
            rintro w8 ⟨⟨_, hb8⟩, rfl⟩
            have HB8 := Lib.hid (HBK.out.trans (hb8.mono HBK.out.size))
            clear hb8
            go_wp2_with (fail)
            go_roundw
            case rel => exact ⟨k + 1, by omega, by first | rfl | (push_cast; rfl) | go_num, HV.out, HB8.out⟩
            case measure => simp [intOf]; omega
        · have hke : m = k := by omega
          subst hke
          have hirr : ¬ (m : Int) < (m : Int) := by omega
          have HV : Hid (¬ clashL (pfs.take (i + 1)) qfs) := Lib.hid (by
            rw [HSU.out]
            rintro ⟨f', hf', g, hg, e1, e2⟩
            rcases List.mem_append.1 hf' with h | h
            · exact HNO.out ⟨f', h, g, hg, e1, e2⟩
            · rw [List.mem_singleton.1 h] at e1 e2
              exact e2 (HNK.out g (by rw [List.take_of_length_le (by rw [HM.out]; exact Nat.le_refl _)]; exact hg) e1))
          go_wp2_with (fail)
          go_roundw
          case rel => exact ⟨i + 1, by omega, by first | rfl | (push_cast; rfl) | go_num, HV.out, HBK.out⟩
          case measure => simp [intOf]; omega
    · have hine : n = i := by omega
      subst hine
      have hirr : ¬ (n : Int) < (n : Int) := by omega
      have HV : Hid (clashB pfs qfs = false) := Lib.hid (clashB_f (by have := HNO.out; rwa [List.take_of_length_le (by rw [HN.out]; exact Nat.le_refl _)] at this))
      go_wp2_with (fail)
      go_ret
      exact ⟨by rw [HV.out]; rfl, HBA.out.trans (HBL.out.mono hsA)⟩
theorem clash_any (p q : Pt) (w : World) (hn6 : p.fs.length ≤ 1000000) (hm6 : q.fs.length ≤ 1000000) (hA : RdS w w.heap.size p.A p.fs) (hB : RdS w w.heap.size q.A q.fs) :
    Calls Try.prog 34 #[ptV p, ptV q] w fun e w' => e = .returned (.bool (clashB p.fs q.fs)) ∧ Below w.heap.size w w' :=
  clash_len p q _ _ w rfl rfl hn6 hm6 hA hB
end Go.Proofs.Ytmalcekbhnkfgaa
