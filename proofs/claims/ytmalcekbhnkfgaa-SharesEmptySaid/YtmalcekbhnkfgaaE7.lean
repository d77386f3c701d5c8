/- Contract of ref.Add. Conditions: as each theorem states them. -/
import Derived.Test.YtmalcekbhnkfgaaE6
namespace Go.Proofs.Ytmalcekbhnkfgaa
open Go.RowKit Go.Maps Go.Shelf
set_option linter.unusedVariables false
set_option linter.unusedSimpArgs false

set_option maxRecDepth 100000 in
set_option maxHeartbeats 4000000 in
theorem radd_wrong (A : Option Addr) (n c : Nat) (l : List Pt) (p : Pt) (w : World) (hl : l.length = n) (hA : RdP w w.heap.size A l) (hr : ¬ RightP l) :
    Calls Try.prog 14 #[.slice A n c, ptV p] w fun e w' => e = .returned (.tuple #[.slice none 0 0, .int .i64 2]) ∧ Below w.heap.size w w' := by
  have hR := fun (X : World) (h : Below w.heap.size w X) => rright_any A c l X ((hA.below h).more h.size (Nat.le_refl _))
  rw [hl, rightB_f hr] at hR
  have HR := Lib.hid hR
  clear hR hA hr hl
  obtain ⟨pid, pfs, pA, pc⟩ := p
  unfold ptV at *
  dsimp only at *
  have bP := BoxP.new w ⟨pid, pfs, pA, pc⟩
  have hbA := bl_alloc (Below.refl w.heap.size w) (Obj.cells #[.int .u64 pid, .slice pA pfs.length pc] 26)
  have hsA : (w.alloc (Obj.cells #[.int .u64 pid, .slice pA pfs.length pc] 26)).heap.size = w.heap.size + 1 := by simp
  dsimp only at bP
  go_enter Try.func14, Try.ntmps14
  go_wp2_with (fail)
  generalize (w.alloc (Obj.cells #[.int .u64 pid, .slice pA pfs.length pc] 26)) = WA at *
  obtain ⟨x0, x1⟩ := bP.cells
  dsimp only at x0 x1
  have HBA := Lib.hid hbA
  have BP := Lib.hid bP
  have HX : Hid (∀ X : Ext WA, Calls Try.prog 17 #[.slice A n c] X.val fun e w' => e = .returned (.bool false) ∧ Below X.val.heap.size X.val w') := Lib.hid fun X => HR.out X.val (hbA.trans (X.bl.mono (by omega)))
  have e0 := ext_cell x0
  have e1 := ext_cell x1
  clear hbA bP
  refine wp_region_ext (by kernel_rfl) (by kernel_rfl) ?_
  repeat (first | fail | go_big_quiet_step (first | (go_at_call 17; exact ext_calls (HX.out _)) ))
  refine wpQuiet_nil ?_
  rintro w2 ⟨⟨_, hb2⟩, rfl⟩
  have hs2 := hb2.size
  have HB2 := Lib.hid (HBA.out.trans (hb2.mono (by omega)))
  clear hb2
  go_wp2_with (fail)
  go_ret2
  exact ⟨rfl, HB2.out⟩
set_option maxRecDepth 100000 in
set_option maxHeartbeats 4000000 in
theorem radd_maynot (A : Option Addr) (n c : Nat) (l : List Pt) (p : Pt) (w : World) (hl : l.length = n) (hA : RdP w w.heap.size A l) (hr : RightP l) (hp : ¬ mayP p) (hpr : RdS w w.heap.size p.A p.fs) :
    Calls Try.prog 14 #[.slice A n c, ptV p] w fun e w' => e = .returned (.tuple #[.slice none 0 0, .int .i64 2]) ∧ Below w.heap.size w w' := by
  have hR := fun (X : World) (h : Below w.heap.size w X) => rright_any A c l X ((hA.below h).more h.size (Nat.le_refl _))
  rw [hl, rightB_t hr] at hR
  have HR := Lib.hid hR
  have hM := fun (X : World) (h : Below w.heap.size w X) => rmay_any p X ((hpr.below h).more h.size (Nat.le_refl _))
  rw [mayB_f hp] at hM
  have HM := Lib.hid hM
  clear hR hM hA hr hl hp hpr
  obtain ⟨pid, pfs, pA, pc⟩ := p
  unfold ptV at *
  dsimp only at *
  have bP := BoxP.new w ⟨pid, pfs, pA, pc⟩
  have hbA := bl_alloc (Below.refl w.heap.size w) (Obj.cells #[.int .u64 pid, .slice pA pfs.length pc] 26)
  have hsA : (w.alloc (Obj.cells #[.int .u64 pid, .slice pA pfs.length pc] 26)).heap.size = w.heap.size + 1 := by simp
  dsimp only at bP
  go_enter Try.func14, Try.ntmps14
  go_wp2_with (fail)
  generalize (w.alloc (Obj.cells #[.int .u64 pid, .slice pA pfs.length pc] 26)) = WA at *
  obtain ⟨x0, x1⟩ := bP.cells
  dsimp only at x0 x1
  have HBA := Lib.hid hbA
  have BP := Lib.hid bP
  have HX : Hid (∀ X : Ext WA, Calls Try.prog 17 #[.slice A n c] X.val fun e w' => e = .returned (.bool true) ∧ Below X.val.heap.size X.val w') := Lib.hid fun X => HR.out X.val (hbA.trans (X.bl.mono (by omega)))
  have HY : Hid (∀ X : Ext WA, Calls Try.prog 33 #[.agg #[.int .u64 pid, .slice pA pfs.length pc]] X.val fun e w' => e = .returned (.bool false) ∧ Below X.val.heap.size X.val w') := Lib.hid fun X => HM.out X.val (hbA.trans (X.bl.mono (by omega)))
  have e0 := ext_cell x0
  have e1 := ext_cell x1
  clear hbA bP
  refine wp_region_ext (by kernel_rfl) (by kernel_rfl) ?_
  repeat (first | fail | go_big_quiet_step (first | (go_at_call 17; exact ext_calls (HX.out _)) | (go_at_call 33; exact ext_calls (HY.out _))))
  refine wpQuiet_nil ?_
  rintro w2 ⟨⟨_, hb2⟩, rfl⟩
  have hs2 := hb2.size
  have HB2 := Lib.hid (HBA.out.trans (hb2.mono (by omega)))
  clear hb2
  go_wp2_with (fail)
  go_ret2
  exact ⟨rfl, HB2.out⟩
set_option maxRecDepth 100000 in
set_option maxHeartbeats 4000000 in
theorem radd_arg (A : Option Addr) (n c : Nat) (l : List Pt) (p : Pt) (w : World) (hl : l.length = n) (hA : RdP w w.heap.size A l) (hr : RightP l) (hp : mayP p) (hpr : RdS w w.heap.size p.A p.fs) (hn : 0 < n) (hlast : p.id ≤ (l.getD (n - 1) zeroP).id) :
    Calls Try.prog 14 #[.slice A n c, ptV p] w fun e w' => e = .returned (.tuple #[.slice none 0 0, .int .i64 2]) ∧ Below w.heap.size w w' := by
  have hR := fun (X : World) (h : Below w.heap.size w X) => rright_any A c l X ((hA.below h).more h.size (Nat.le_refl _))
  rw [hl, rightB_t hr] at hR
  have HR := Lib.hid hR
  have hM := fun (X : World) (h : Below w.heap.size w X) => rmay_any p X ((hpr.below h).more h.size (Nat.le_refl _))
  rw [mayB_t hp] at hM
  have HM := Lib.hid hM
  have hn16 : n ≤ 16 := by have := hr.1; omega
  obtain ⟨b, off, rfl, hb, _, hc⟩ := hA.1 (by omega)
  have hlc := (hc (n - 1) (by omega)).1
  obtain ⟨v, hv⟩ : ∃ v, (l.getD (n - 1) zeroP).id = v := ⟨_, rfl⟩
  rw [hv] at hlc hlast
  have HLC := Lib.hid hlc
  have hn0 : (0 : Int) < (n : Int) := by omega
  have hj0 : (0 : Int) ≤ (n : Int) - 1 := by omega
  have hj1 : (n : Int) - 1 < (n : Int) := by omega
  have hjn : ((n : Int) - 1).toNat = n - 1 := by omega
  clear hlc hc hv
  clear hR hM hA hr hl hp hpr
  obtain ⟨pid, pfs, pA, pc⟩ := p
  unfold ptV at *
  dsimp only at *
  have bP := BoxP.new w ⟨pid, pfs, pA, pc⟩
  have hbA := bl_alloc (Below.refl w.heap.size w) (Obj.cells #[.int .u64 pid, .slice pA pfs.length pc] 26)
  have hsA : (w.alloc (Obj.cells #[.int .u64 pid, .slice pA pfs.length pc] 26)).heap.size = w.heap.size + 1 := by simp
  dsimp only at bP
  go_enter Try.func14, Try.ntmps14
  go_wp2_with (fail)
  generalize (w.alloc (Obj.cells #[.int .u64 pid, .slice pA pfs.length pc] 26)) = WA at *
  obtain ⟨x0, x1⟩ := bP.cells
  dsimp only at x0 x1
  have HBA := Lib.hid hbA
  have BP := Lib.hid bP
  have HX : Hid (∀ X : Ext WA, Calls Try.prog 17 #[.slice (some ⟨b, off, none⟩) n c] X.val fun e w' => e = .returned (.bool true) ∧ Below X.val.heap.size X.val w') := Lib.hid fun X => HR.out X.val (hbA.trans (X.bl.mono (by omega)))
  have HY : Hid (∀ X : Ext WA, Calls Try.prog 33 #[.agg #[.int .u64 pid, .slice pA pfs.length pc]] X.val fun e w' => e = .returned (.bool true) ∧ Below X.val.heap.size X.val w') := Lib.hid fun X => HM.out X.val (hbA.trans (X.bl.mono (by omega)))
  have H0 : Hid (decide ((0 : Int) < (n : Int)) = true) := dec_t hn0
  have H0n : Hid (decide (0 < n) = true) := dec_t (by omega)
  have H1 : Hid (decide (pid ≤ v) = true) := dec_t (by omega)
  have e2 := ext_cell ((HBA.out.cell (p := ⟨b, off + (n - 1) * 2, none⟩) hb).trans HLC.out)
  have e0 := ext_cell x0
  have e1 := ext_cell x1
  clear hbA bP
  refine wp_region_ext (by kernel_rfl) (by kernel_rfl) ?_
  repeat (first | rw [H0.out] | rw [H0n.out] | rw [H1.out] | go_big_quiet_step (first | (go_at_call 17; exact ext_calls (HX.out _)) | (go_at_call 33; exact ext_calls (HY.out _))))
  refine wpQuiet_nil ?_
  rintro w2 ⟨⟨_, hb2⟩, rfl⟩
  have hs2 := hb2.size
  have HB2 := Lib.hid (HBA.out.trans (hb2.mono (by omega)))
  clear hb2
  go_wp2_with (fail)
  go_ret2
  exact ⟨rfl, HB2.out⟩
set_option maxRecDepth 100000 in
set_option maxHeartbeats 4000000 in
theorem radd_good0 (A : Option Addr) (n c : Nat) (l : List Pt) (p : Pt) (w : World) (hl : l.length = n) (hA : RdP w w.heap.size A l) (hr : RightP l) (hp : mayP p) (hpr : RdS w w.heap.size p.A p.fs) (hpc : p.fs.length ≤ p.c) (hnone : A = none → c = 0) (hn : n = 0) :
    Calls Try.prog 14 #[.slice A n c, ptV p] w fun e w' => ∃ v, e = .returned (.tuple #[v, .int .i64 (addG l p)]) ∧ (addG l p ≠ 0 → v = .slice none 0 0) ∧ (addG l p = 0 → ∃ A' c', v = .slice A' (n + 1) c' ∧ RdP w' w'.heap.size A' (l ++ [p])) ∧ Below w.heap.size w w' := by
  have hR := fun (X : World) (h : Below w.heap.size w X) => rright_any A c l X ((hA.below h).more h.size (Nat.le_refl _))
  rw [hl, rightB_t hr] at hR
  have HR := Lib.hid hR
  have hM := fun (X : World) (h : Below w.heap.size w X) => rmay_any p X ((hpr.below h).more h.size (Nat.le_refl _))
  rw [mayB_t hp] at hM
  have HM := Lib.hid hM
  have hfs : ∀ p ∈ l, p.fs.length ≤ 256 := fun p hp => (hr.2.1 p hp).2.1
  have hn16 : n ≤ 16 := by have := hr.1; omega
  have hp256 := hp.2.1
  have HN0 := Lib.hid hn
  clear hn
  have HA := Lib.hid hA
  have HFS := Lib.hid hfs
  have HL := Lib.hid hl
  have HPR := Lib.hid hpr
  have HPC := Lib.hid hpc
  have HNO := Lib.hid hnone
  clear hfs hR hM hA hr hl hpr hp hpc hnone
  obtain ⟨pid, pfs, pA, pc⟩ := p
  unfold ptV at *
  dsimp only at *
  have bP := BoxP.new w ⟨pid, pfs, pA, pc⟩
  have hbA := bl_alloc (Below.refl w.heap.size w) (Obj.cells #[.int .u64 pid, .slice pA pfs.length pc] 26)
  have hsA : (w.alloc (Obj.cells #[.int .u64 pid, .slice pA pfs.length pc] 26)).heap.size = w.heap.size + 1 := by simp
  dsimp only at bP
  go_enter Try.func14, Try.ntmps14
  go_wp2_with (fail)
  generalize (w.alloc (Obj.cells #[.int .u64 pid, .slice pA pfs.length pc] 26)) = WA at *
  obtain ⟨x0, x1⟩ := bP.cells
  dsimp only at x0 x1
  have HBA := Lib.hid hbA
  have BP := Lib.hid bP
  have HX : Hid (∀ X : Ext WA, Calls Try.prog 17 #[.slice A n c] X.val fun e w' => e = .returned (.bool true) ∧ Below X.val.heap.size X.val w') := Lib.hid fun X => HR.out X.val (hbA.trans (X.bl.mono (by omega)))
  have HY : Hid (∀ X : Ext WA, Calls Try.prog 33 #[.agg #[.int .u64 pid, .slice pA pfs.length pc]] X.val fun e w' => e = .returned (.bool true) ∧ Below X.val.heap.size X.val w') := Lib.hid fun X => HM.out X.val (hbA.trans (X.bl.mono (by omega)))
  have H0 : Hid (decide ((0 : Int) < (n : Int)) = false) := dec_f (by have := HN0.out; omega)
  have H0n : Hid (decide (0 < n) = false) := dec_f (by have := HN0.out; omega)
  have e0 := ext_cell x0
  have e1 := ext_cell x1
  clear hbA bP
  refine wp_region_ext (by kernel_rfl) (by kernel_rfl) ?_
  repeat (first | rw [H0.out] | rw [H0n.out] | go_big_quiet_step (first | (go_at_call 17; exact ext_calls (HX.out _)) | (go_at_call 33; exact ext_calls (HY.out _))))
  refine wpQuiet_nil ?_
  rintro w2 ⟨⟨_, hb2⟩, rfl⟩
  have hs2 := hb2.size
  have HB2 := Lib.hid (HBA.out.trans (hb2.mono (by omega)))
  have BP2 : Hid (BoxP w2 w.heap.size ⟨pid, pfs, pA, pc⟩) := Lib.hid (BP.out.kw hb2 (by omega))
  clear hb2 e0 e1 x0 x1 
  go_wp2_with (fail)
  go_loopw [6] (fun vi wr => ∃ i : Nat, i ≤ n ∧ vi = .int .i64 i ∧ (∀ j, j < i → ¬ clashL (l.getD j zeroP).fs pfs) ∧ Below w2.heap.size w2 wr) (fun i _ => n - (intOf i).toNat)
  case atStart => exact ⟨0, Nat.zero_le _, rfl, fun j hj => by omega, Below.refl _ _⟩
  case round =>
    obtain ⟨i, hin, rfl, hnk, hbl⟩ := hrel
    have HNK := Lib.hid hnk
    have HBL := Lib.hid hbl
    have hws := hbl.size
    have HBW := Lib.hid (HB2.out.trans (hbl.mono HB2.out.size))
    obtain ⟨x0, x1⟩ := (BP2.out.kw hbl (by omega)).cells
    dsimp only at x0 x1
    have hlw : w.heap.size < wr.heap.size := by omega
    clear hnk hbl
    by_cases hi : i < n
    · have hi0 : (0 : Int) ≤ (i : Int) := by omega
      have hi1 : (i : Int) < (n : Int) := by omega
      obtain ⟨pb, po, hpe, hpb, _, hpc⟩ := HA.out.1 (by rw [HL.out]; omega)
      cases hpe
      obtain ⟨a0, a1⟩ := hpc i (by rw [HL.out]; exact hi)
      have hqm : l.getD i zeroP ∈ l := getP_mem (by rw [HL.out]; exact hi)
      have hqr := (HA.out.2 _ hqm).1
      have hq2 := HFS.out _ hqm
      obtain ⟨q, hq⟩ : ∃ q, l.getD i zeroP = q := ⟨_, rfl⟩
      rw [hq] at a0 a1 hqr hq2 hqm
      have HQ := Lib.hid hq
      have HQM := Lib.hid hqm
      have t0 := ext_cell ((HBW.out.cell (p := ⟨pb, po + i * 2, none⟩) hpb).trans a0)
      have t1 := ext_cell ((HBW.out.cell (p := ⟨pb, po + i * 2 + 1, none⟩) hpb).trans a1)
      have e0 := ext_cell x0
      have e1 := ext_cell x1
      have HLL : Hid (∀ X : Ext wr, Calls Try.prog 34 #[.agg #[.int .u64 q.id, .slice q.A q.fs.length q.c], .agg #[.int .u64 pid, .slice pA pfs.length pc]] X.val fun e w' => e = .returned (.bool (clashB q.fs pfs)) ∧ Below X.val.heap.size X.val w') := Lib.hid fun X => by
        have hX := HBW.out.trans (X.bl.mono HBW.out.size)
        exact clash_any q ⟨pid, pfs, pA, pc⟩ X.val (by omega) (by dsimp only; omega) ((hqr.below hX).more hX.size (Nat.le_refl _)) ((HPR.out.below hX).more hX.size (Nat.le_refl _))
      clear hpc hq hqr hqm hq2 a0 a1
      by_cases hcl : clashL q.fs pfs
      · have HG : Hid (addG l ⟨pid, pfs, pA, pc⟩ = 5) := Lib.hid (by
          obtain ⟨f, hf, g, hg, e1, e2⟩ := hcl
          unfold addG
          rw [if_pos ⟨f, mem_allF.2 ⟨q, HQM.out, hf⟩, g, hg, e1, e2⟩])
        rw [clashB_t hcl] at HLL
        clear hcl
        go_wp2_with (fail)
        refine wp_region_ext (by kernel_rfl) (by kernel_rfl) ?_
        repeat (go_big_quiet_step ((go_at_call 34; exact ext_calls (HLL.out _))))
        refine wpQuiet_nil ?_
        rintro w8 ⟨⟨_, hb8⟩, rfl⟩
        have HB8 := Lib.hid (HBW.out.trans (hb8.mono HBW.out.size))
        clear hb8
        go_wp2_with (fail)
        go_ret2
        exact ⟨_, by rw [HG.out] <;> rfl, fun _ => rfl, fun h => by rw [HG.out] at h; omega, HB8.out⟩
      · have HV : Hid (∀ j, j < i + 1 → ¬ clashL (l.getD j zeroP).fs pfs) := Lib.hid (fun j hj => by
          by_cases hjk : j = i
          · rw [hjk, HQ.out]
            exact hcl
          · exact HNK.out j (by omega))
        rw [clashB_f hcl] at HLL
        clear hcl
        go_wp2_with (fail)
        refine wp_region_ext (by kernel_rfl) (by kernel_rfl) ?_
        repeat (go_big_quiet_step ((go_at_call 34; exact ext_calls (HLL.out _))))
        refine wpQuiet_nil ?_
        rintro w8 ⟨⟨_, hb8⟩, rfl⟩
        have HB8 := Lib.hid (HBL.out.trans (hb8.mono HBL.out.size))
        clear hb8
        go_wp2_with (fail)
        go_roundw
        case rel => exact ⟨i + 1, by omega, by first | rfl | (push_cast; rfl) | go_num, HV.out, HB8.out⟩
        case measure => simp [intOf]; omega
    · have hine : n = i := by omega
      subst hine
      have hirr : ¬ (n : Int) < (n : Int) := by omega
      have HC : Hid (¬ clashL (allF l) pfs) := Lib.hid (by
        rintro ⟨f, hf, g, hg, e1, e2⟩
        obtain ⟨q, hq, hfq⟩ := mem_allF.1 hf
        obtain ⟨j, hj, rfl⟩ := List.mem_iff_getElem.1 hq
        refine HNK.out j (by rw [← HL.out]; exact hj) ⟨f, ?_, g, hg, e1, e2⟩
        rw [getP hj]
        exact hfq)
      by_cases h16 : n = 16
      · have HG : Hid (addG l ⟨pid, pfs, pA, pc⟩ = 3) := Lib.hid (by unfold addG; rw [if_neg HC.out, if_pos (by rw [HL.out]; exact h16)])
        subst h16
        go_wp2_with (fail)
        go_ret2
        exact ⟨_, by rw [HG.out] <;> rfl, fun _ => rfl, fun h => by rw [HG.out] at h; omega, HBW.out⟩
      · have HG : Hid (addG l ⟨pid, pfs, pA, pc⟩ = 0) := Lib.hid (by unfold addG; rw [if_neg HC.out, if_neg (by rw [HL.out]; exact h16)])
        have hne16 : ¬ (n : Int) = 16 := by omega
        have hneb : ((n : Int) == 16) = false := by simpa using hne16
        clear h16
        go_wp2_with ((at_builtin; refine Hid.out ?_))
        refine Lib.hid ?_
        have HB3 : Hid (Below wr.heap.size wr (wr.alloc (Obj.cells #[] 26))) := Lib.hid ((Below.refl wr.heap.size wr).alloc (Nat.le_refl _) _)
        have HO3 : Hid ((wr.alloc (Obj.cells #[] 26)).ownsRow wr.heap.size 26 2 (.slice (some ⟨wr.heap.size, 0, none⟩) 0 0) 0 (pcells [])) := Lib.hid (World.ownsRow_made (base := wr.heap.size) (e := 26) (size := 2) wr #[] 0 (Nat.le_refl _) (by decide) rfl)
        have hs3 : (wr.alloc (Obj.cells #[] 26)).heap.size = wr.heap.size + 1 := by simp
        have HA3 := Lib.hid (HA.out.below (HBW.out.trans (HB3.out.mono HBW.out.size)))
        generalize (wr.alloc (Obj.cells #[] 26)) = w3 at *
        refine wpList_append_p _ (by rfl) _ _ rfl wr.heap.size 0 _ [] rfl HO3.out A n c l HL.out rfl (fun ad had => rdP_at (by rw [← had]; exact HA3.out)) (fun h => ⟨HNO.out h, by
          rcases Nat.eq_zero_or_pos n with h0 | h0
          · exact h0
          · obtain ⟨_, _, e, _⟩ := HA.out.1 (by rw [HL.out]; exact h0)
            rw [h] at e
            cases e⟩) (by omega) (by omega) ?_
        intro v4 w4 hown4 hg4
        rw [Nat.zero_add, List.nil_append] at hown4
        have HO4 := Lib.hid hown4
        have HB4 : Hid (Below wr.heap.size wr w4) := Lib.hid (HB3.out.grown hg4 HB3.out.size (own_ge HO3.out))
        have hs4 := HB4.out.size
        have x0 := (HB4.out.cell (p := ⟨w.heap.size, 0, none⟩) hlw).trans x0
        have x1 := (HB4.out.cell (p := ⟨w.heap.size, 1, none⟩) hlw).trans x1
        have hlw4 : w.heap.size < w4.heap.size := by omega
        clear hown4 hg4
        go_wp2_with ((at_builtin; refine Hid.out ?_))
        refine Lib.hid ?_
        have HB5 : Hid (Below w4.heap.size w4 (w4.alloc (Obj.cells #[.int .u64 pid, .slice pA pfs.length pc] 26))) := Lib.hid ((Below.refl w4.heap.size w4).alloc (Nat.le_refl _) _)
        have HO5 := Lib.hid (own_new HO4.out HB5.out)
        have h2 := two_new w4 (.int .u64 pid) (.slice pA pfs.length pc) 26
        refine wpList_append_p _ (by rfl) _ _ rfl wr.heap.size n _ l rfl HO5.out (some ⟨w4.heap.size, 0, none⟩) 1 1 [⟨pid, pfs, pA, pc⟩] rfl rfl ?_ (fun h => by cases h) (by omega) (Nat.le_trans hs4 HB5.out.size) ?_
        · intro ad had j u hu
          cases had
          match j with
          | 0 =>
            have hu : some (Value.int .u64 pid) = some u := hu
            rw [← hu]
            exact h2.1
          | 1 =>
            have hu : some (Value.slice pA pfs.length pc) = some u := hu
            rw [← hu]
            exact h2.2
          | j + 2 => exact absurd hu (by simp [pcells])
        intro v6 w6 hown6 hg6
        have HB6 : Hid (Below wr.heap.size wr w6) := Lib.hid ((HB4.out.trans (HB5.out.mono hs4)).grown hg6 (Nat.le_trans hs4 HB5.out.size) (own_ge HO4.out))
        have HW6 := Lib.hid (HBW.out.trans (HB6.out.mono HBW.out.size))
        have hs6 := HW6.out.size
        have hR6 := own_rp hown6 (by rw [List.length_append, HL.out]; rfl) (fun q hq => by
          rcases List.mem_append.1 hq with h | h
          · exact ⟨((HA.out.2 q h).1.below HW6.out).more hs6 (Nat.le_refl _), (HA.out.2 q h).2⟩
          · rw [List.mem_singleton.1 h]
            exact ⟨(HPR.out.below HW6.out).more hs6 (Nat.le_refl _), HPC.out⟩)
        obtain ⟨A6, c6, rfl, hr6, hc6⟩ := hR6
        have HR6 := Lib.hid hr6
        clear hown6 hg6 h2 hr6
        go_wp2_with (fail)
        go_ret2
        exact ⟨_, by rw [HG.out] <;> rfl, fun h => absurd HG.out h, fun _ => ⟨A6, c6, rfl, HR6.out⟩, HW6.out⟩
set_option maxRecDepth 100000 in
set_option maxHeartbeats 4000000 in
theorem radd_goodN (A : Option Addr) (n c : Nat) (l : List Pt) (p : Pt) (w : World) (hl : l.length = n) (hA : RdP w w.heap.size A l) (hr : RightP l) (hp : mayP p) (hpr : RdS w w.heap.size p.A p.fs) (hpc : p.fs.length ≤ p.c) (hnone : A = none → c = 0) (hn : 0 < n) (hlast : (l.getD (n - 1) zeroP).id < p.id) :
    Calls Try.prog 14 #[.slice A n c, ptV p] w fun e w' => ∃ v, e = .returned (.tuple #[v, .int .i64 (addG l p)]) ∧ (addG l p ≠ 0 → v = .slice none 0 0) ∧ (addG l p = 0 → ∃ A' c', v = .slice A' (n + 1) c' ∧ RdP w' w'.heap.size A' (l ++ [p])) ∧ Below w.heap.size w w' := by
  have hR := fun (X : World) (h : Below w.heap.size w X) => rright_any A c l X ((hA.below h).more h.size (Nat.le_refl _))
  rw [hl, rightB_t hr] at hR
  have HR := Lib.hid hR
  have hM := fun (X : World) (h : Below w.heap.size w X) => rmay_any p X ((hpr.below h).more h.size (Nat.le_refl _))
  rw [mayB_t hp] at hM
  have HM := Lib.hid hM
  have hfs : ∀ p ∈ l, p.fs.length ≤ 256 := fun p hp => (hr.2.1 p hp).2.1
  have hn16 : n ≤ 16 := by have := hr.1; omega
  have hp256 := hp.2.1
  obtain ⟨b, off, rfl, hb, _, hc⟩ := hA.1 (by omega)
  have hlc := (hc (n - 1) (by omega)).1
  obtain ⟨v, hv⟩ : ∃ v, (l.getD (n - 1) zeroP).id = v := ⟨_, rfl⟩
  rw [hv] at hlc hlast
  have HLC := Lib.hid hlc
  have hn0 : (0 : Int) < (n : Int) := by omega
  have hj0 : (0 : Int) ≤ (n : Int) - 1 := by omega
  have hj1 : (n : Int) - 1 < (n : Int) := by omega
  have hjn : ((n : Int) - 1).toNat = n - 1 := by omega
  clear hlc hc hv
  have HA := Lib.hid hA
  have HFS := Lib.hid hfs
  have HL := Lib.hid hl
  have HPR := Lib.hid hpr
  have HPC := Lib.hid hpc
  have HNO := Lib.hid hnone
  clear hfs hR hM hA hr hl hpr hp hpc hnone
  obtain ⟨pid, pfs, pA, pc⟩ := p
  unfold ptV at *
  dsimp only at *
  have bP := BoxP.new w ⟨pid, pfs, pA, pc⟩
  have hbA := bl_alloc (Below.refl w.heap.size w) (Obj.cells #[.int .u64 pid, .slice pA pfs.length pc] 26)
  have hsA : (w.alloc (Obj.cells #[.int .u64 pid, .slice pA pfs.length pc] 26)).heap.size = w.heap.size + 1 := by simp
  dsimp only at bP
  go_enter Try.func14, Try.ntmps14
  go_wp2_with (fail)
  generalize (w.alloc (Obj.cells #[.int .u64 pid, .slice pA pfs.length pc] 26)) = WA at *
  obtain ⟨x0, x1⟩ := bP.cells
  dsimp only at x0 x1
  have HBA := Lib.hid hbA
  have BP := Lib.hid bP
  have HX : Hid (∀ X : Ext WA, Calls Try.prog 17 #[.slice (some ⟨b, off, none⟩) n c] X.val fun e w' => e = .returned (.bool true) ∧ Below X.val.heap.size X.val w') := Lib.hid fun X => HR.out X.val (hbA.trans (X.bl.mono (by omega)))
  have HY : Hid (∀ X : Ext WA, Calls Try.prog 33 #[.agg #[.int .u64 pid, .slice pA pfs.length pc]] X.val fun e w' => e = .returned (.bool true) ∧ Below X.val.heap.size X.val w') := Lib.hid fun X => HM.out X.val (hbA.trans (X.bl.mono (by omega)))
  have H0 : Hid (decide ((0 : Int) < (n : Int)) = true) := dec_t hn0
  have H0n : Hid (decide (0 < n) = true) := dec_t (by omega)
  have H1 : Hid (decide (pid ≤ v) = false) := dec_f (by omega)
  have e2 := ext_cell ((HBA.out.cell (p := ⟨b, off + (n - 1) * 2, none⟩) hb).trans HLC.out)
  have e0 := ext_cell x0
  have e1 := ext_cell x1
  clear hbA bP
  refine wp_region_ext (by kernel_rfl) (by kernel_rfl) ?_
  repeat (first | rw [H0.out] | rw [H0n.out] | rw [H1.out] | go_big_quiet_step (first | (go_at_call 17; exact ext_calls (HX.out _)) | (go_at_call 33; exact ext_calls (HY.out _))))
  refine wpQuiet_nil ?_
  rintro w2 ⟨⟨_, hb2⟩, rfl⟩
  have hs2 := hb2.size
  have HB2 := Lib.hid (HBA.out.trans (hb2.mono (by omega)))
  have BP2 : Hid (BoxP w2 w.heap.size ⟨pid, pfs, pA, pc⟩) := Lib.hid (BP.out.kw hb2 (by omega))
  clear hb2 e0 e1 x0 x1 e2
  go_wp2_with (fail)
  go_loopw [6] (fun vi wr => ∃ i : Nat, i ≤ n ∧ vi = .int .i64 i ∧ (∀ j, j < i → ¬ clashL (l.getD j zeroP).fs pfs) ∧ Below w2.heap.size w2 wr) (fun i _ => n - (intOf i).toNat)
  case atStart => exact ⟨0, Nat.zero_le _, rfl, fun j hj => by omega, Below.refl _ _⟩
  case round =>
    obtain ⟨i, hin, rfl, hnk, hbl⟩ := hrel
    have HNK := Lib.hid hnk
    have HBL := Lib.hid hbl
    have hws := hbl.size
    have HBW := Lib.hid (HB2.out.trans (hbl.mono HB2.out.size))
    obtain ⟨x0, x1⟩ := (BP2.out.kw hbl (by omega)).cells
    dsimp only at x0 x1
    have hlw : w.heap.size < wr.heap.size := by omega
    clear hnk hbl
    by_cases hi : i < n
    · have hi0 : (0 : Int) ≤ (i : Int) := by omega
      have hi1 : (i : Int) < (n : Int) := by omega
      obtain ⟨pb, po, hpe, hpb, _, hpc⟩ := HA.out.1 (by rw [HL.out]; omega)
      cases hpe
      obtain ⟨a0, a1⟩ := hpc i (by rw [HL.out]; exact hi)
      have hqm : l.getD i zeroP ∈ l := getP_mem (by rw [HL.out]; exact hi)
      have hqr := (HA.out.2 _ hqm).1
      have hq2 := HFS.out _ hqm
      obtain ⟨q, hq⟩ : ∃ q, l.getD i zeroP = q := ⟨_, rfl⟩
      rw [hq] at a0 a1 hqr hq2 hqm
      have HQ := Lib.hid hq
      have HQM := Lib.hid hqm
      have t0 := ext_cell ((HBW.out.cell (p := ⟨b, off + i * 2, none⟩) hpb).trans a0)
      have t1 := ext_cell ((HBW.out.cell (p := ⟨b, off + i * 2 + 1, none⟩) hpb).trans a1)
      have e0 := ext_cell x0
      have e1 := ext_cell x1
      have HLL : Hid (∀ X : Ext wr, Calls Try.prog 34 #[.agg #[.int .u64 q.id, .slice q.A q.fs.length q.c], .agg #[.int .u64 pid, .slice pA pfs.length pc]] X.val fun e w' => e = .returned (.bool (clashB q.fs pfs)) ∧ Below X.val.heap.size X.val w') := Lib.hid fun X => by
        have hX := HBW.out.trans (X.bl.mono HBW.out.size)
        exact clash_any q ⟨pid, pfs, pA, pc⟩ X.val (by omega) (by dsimp only; omega) ((hqr.below hX).more hX.size (Nat.le_refl _)) ((HPR.out.below hX).more hX.size (Nat.le_refl _))
      clear hpc hq hqr hqm hq2 a0 a1
      by_cases hcl : clashL q.fs pfs
      · have HG : Hid (addG l ⟨pid, pfs, pA, pc⟩ = 5) := Lib.hid (by
          obtain ⟨f, hf, g, hg, e1, e2⟩ := hcl
          unfold addG
          rw [if_pos ⟨f, mem_allF.2 ⟨q, HQM.out, hf⟩, g, hg, e1, e2⟩])
        rw [clashB_t hcl] at HLL
        clear hcl
        go_wp2_with (fail)
        refine wp_region_ext (by kernel_rfl) (by kernel_rfl) ?_
        repeat (go_big_quiet_step ((go_at_call 34; exact ext_calls (HLL.out _))))
        refine wpQuiet_nil ?_
        rintro w8 ⟨⟨_, hb8⟩, rfl⟩
        have HB8 := Lib.hid (HBW.out.trans (hb8.mono HBW.out.size))
        clear hb8
        go_wp2_with (fail)
        go_ret2
        exact ⟨_, by rw [HG.out] <;> rfl, fun _ => rfl, fun h => by rw [HG.out] at h; omega, HB8.out⟩
      · have HV : Hid (∀ j, j < i + 1 → ¬ clashL (l.getD j zeroP).fs pfs) := Lib.hid (fun j hj => by
          by_cases hjk : j = i
          · rw [hjk, HQ.out]
            exact hcl
          · exact HNK.out j (by omega))
        rw [clashB_f hcl] at HLL
        clear hcl
        go_wp2_with (fail)
        refine wp_region_ext (by kernel_rfl) (by kernel_rfl) ?_
        repeat (go_big_quiet_step ((go_at_call 34; exact ext_calls (HLL.out _))))
        refine wpQuiet_nil ?_
        rintro w8 ⟨⟨_, hb8⟩, rfl⟩
        have HB8 := Lib.hid (HBL.out.trans (hb8.mono HBL.out.size))
        clear hb8
        go_wp2_with (fail)
        go_roundw
        case rel => exact ⟨i + 1, by omega, by first | rfl | (push_cast; rfl) | go_num, HV.out, HB8.out⟩
        case measure => simp [intOf]; omega
    · have hine : n = i := by omega
      subst hine
      have hirr : ¬ (n : Int) < (n : Int) := by omega
      have HC : Hid (¬ clashL (allF l) pfs) := Lib.hid (by
        rintro ⟨f, hf, g, hg, e1, e2⟩
        obtain ⟨q, hq, hfq⟩ := mem_allF.1 hf
        obtain ⟨j, hj, rfl⟩ := List.mem_iff_getElem.1 hq
        refine HNK.out j (by rw [← HL.out]; exact hj) ⟨f, ?_, g, hg, e1, e2⟩
        rw [getP hj]
        exact hfq)
      by_cases h16 : n = 16
      · have HG : Hid (addG l ⟨pid, pfs, pA, pc⟩ = 3) := Lib.hid (by unfold addG; rw [if_neg HC.out, if_pos (by rw [HL.out]; exact h16)])
        subst h16
        go_wp2_with (fail)
        go_ret2
        exact ⟨_, by rw [HG.out] <;> rfl, fun _ => rfl, fun h => by rw [HG.out] at h; omega, HBW.out⟩
      · have HG : Hid (addG l ⟨pid, pfs, pA, pc⟩ = 0) := Lib.hid (by unfold addG; rw [if_neg HC.out, if_neg (by rw [HL.out]; exact h16)])
        have hne16 : ¬ (n : Int) = 16 := by omega
        have hneb : ((n : Int) == 16) = false := by simpa using hne16
        clear h16
        go_wp2_with ((at_builtin; refine Hid.out ?_))
        refine Lib.hid ?_
        have HB3 : Hid (Below wr.heap.size wr (wr.alloc (Obj.cells #[] 26))) := Lib.hid ((Below.refl wr.heap.size wr).alloc (Nat.le_refl _) _)
        have HO3 : Hid ((wr.alloc (Obj.cells #[] 26)).ownsRow wr.heap.size 26 2 (.slice (some ⟨wr.heap.size, 0, none⟩) 0 0) 0 (pcells [])) := Lib.hid (World.ownsRow_made (base := wr.heap.size) (e := 26) (size := 2) wr #[] 0 (Nat.le_refl _) (by decide) rfl)
        have hs3 : (wr.alloc (Obj.cells #[] 26)).heap.size = wr.heap.size + 1 := by simp
        have HA3 := Lib.hid (HA.out.below (HBW.out.trans (HB3.out.mono HBW.out.size)))
        generalize (wr.alloc (Obj.cells #[] 26)) = w3 at *
        refine wpList_append_p _ (by rfl) _ _ rfl wr.heap.size 0 _ [] rfl HO3.out (some ⟨b, off, none⟩) n c l HL.out rfl (fun ad had => rdP_at (by rw [← had]; exact HA3.out)) (fun h => ⟨HNO.out h, by
          rcases Nat.eq_zero_or_pos n with h0 | h0
          · exact h0
          · obtain ⟨_, _, e, _⟩ := HA.out.1 (by rw [HL.out]; exact h0)
            rw [h] at e
            cases e⟩) (by omega) (by omega) ?_
        intro v4 w4 hown4 hg4
        rw [Nat.zero_add, List.nil_append] at hown4
        have HO4 := Lib.hid hown4
        have HB4 : Hid (Below wr.heap.size wr w4) := Lib.hid (HB3.out.grown hg4 HB3.out.size (own_ge HO3.out))
        have hs4 := HB4.out.size
        have x0 := (HB4.out.cell (p := ⟨w.heap.size, 0, none⟩) hlw).trans x0
        have x1 := (HB4.out.cell (p := ⟨w.heap.size, 1, none⟩) hlw).trans x1
        have hlw4 : w.heap.size < w4.heap.size := by omega
        clear hown4 hg4
        go_wp2_with ((at_builtin; refine Hid.out ?_))
        refine Lib.hid ?_
        have HB5 : Hid (Below w4.heap.size w4 (w4.alloc (Obj.cells #[.int .u64 pid, .slice pA pfs.length pc] 26))) := Lib.hid ((Below.refl w4.heap.size w4).alloc (Nat.le_refl _) _)
        have HO5 := Lib.hid (own_new HO4.out HB5.out)
        have h2 := two_new w4 (.int .u64 pid) (.slice pA pfs.length pc) 26
        refine wpList_append_p _ (by rfl) _ _ rfl wr.heap.size n _ l rfl HO5.out (some ⟨w4.heap.size, 0, none⟩) 1 1 [⟨pid, pfs, pA, pc⟩] rfl rfl ?_ (fun h => by cases h) (by omega) (Nat.le_trans hs4 HB5.out.size) ?_
        · intro ad had j u hu
          cases had
          match j with
          | 0 =>
            have hu : some (Value.int .u64 pid) = some u := hu
            rw [← hu]
            exact h2.1
          | 1 =>
            have hu : some (Value.slice pA pfs.length pc) = some u := hu
            rw [← hu]
            exact h2.2
          | j + 2 => exact absurd hu (by simp [pcells])
        intro v6 w6 hown6 hg6
        have HB6 : Hid (Below wr.heap.size wr w6) := Lib.hid ((HB4.out.trans (HB5.out.mono hs4)).grown hg6 (Nat.le_trans hs4 HB5.out.size) (own_ge HO4.out))
        have HW6 := Lib.hid (HBW.out.trans (HB6.out.mono HBW.out.size))
        have hs6 := HW6.out.size
        have hR6 := own_rp hown6 (by rw [List.length_append, HL.out]; rfl) (fun q hq => by
          rcases List.mem_append.1 hq with h | h
          · exact ⟨((HA.out.2 q h).1.below HW6.out).more hs6 (Nat.le_refl _), (HA.out.2 q h).2⟩
          · rw [List.mem_singleton.1 h]
            exact ⟨(HPR.out.below HW6.out).more hs6 (Nat.le_refl _), HPC.out⟩)
        obtain ⟨A6, c6, rfl, hr6, hc6⟩ := hR6
        have HR6 := Lib.hid hr6
        clear hown6 hg6 h2 hr6
        go_wp2_with (fail)
        go_ret2
        exact ⟨_, by rw [HG.out] <;> rfl, fun h => absurd HG.out h, fun _ => ⟨A6, c6, rfl, HR6.out⟩, HW6.out⟩
end Go.Proofs.Ytmalcekbhnkfgaa
