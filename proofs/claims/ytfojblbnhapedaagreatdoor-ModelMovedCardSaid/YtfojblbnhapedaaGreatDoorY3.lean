/- The walk of ModelMoved. Conditions: as each theorem states them. -/
import Derived.Test.YtfojblbnhapedaaGreatDoorY2
import Derived.Test.YtfojblbnhapedaaGreatDoorZ4
import Derived.Test.YtfojblbnhapedaaGreatDoorZ5
namespace Go.Proofs.YtfojblbnhapedaaGreatDoor
open Go.RowKit Go.Maps
set_option linter.unusedVariables false
set_option linter.unusedSimpArgs false

/-- What an operator's windows go by. -/
def facO (o : JOp) : Int := if o.k = 1 then o.s else if o.k = 2 then o.l else 1
def goodO (o : JOp) : Prop := (o.k = 1 ∧ 0 < o.s ∧ o.s ≤ 10) ∨ (o.k = 2 ∧ 0 < o.l ∧ o.l ≤ 10) ∨ o.k = 3
theorem fac_rg {o : JOp} (h : goodO o) : 1 ≤ facO o ∧ facO o ≤ 10 := by
  unfold facO
  rcases h with ⟨h, h1, h2⟩ | ⟨h, h1, h2⟩ | h
  · rw [if_pos h]; omega
  · rw [if_neg (by omega), if_pos h]; omega
  · rw [if_neg (by omega), if_neg (by omega)]; omega
/-- What is known of the product behind k operators. -/
structure ByK (ops : List JOp) (k : Nat) (b : Int) : Prop where
  lo : 1 ≤ b
  hi : b ≤ (10 : Int) ^ k
  good : ∀ i, i < k → goodO (ops.getD i zeroP)
  dvd : ∀ i, i < k → facO (ops.getD i zeroP) ∣ b
theorem ByK.zero (ops : List JOp) : ByK ops 0 1 := ⟨Int.le_refl _, by simp, fun i h => absurd h (Nat.not_lt_zero _), fun i h => absurd h (Nat.not_lt_zero _)⟩
theorem ByK.succ {ops : List JOp} {k : Nat} {b : Int} (h : ByK ops k b) (hg : goodO (ops.getD k zeroP)) {c : Int} (hc : c = b * facO (ops.getD k zeroP)) : ByK ops (k + 1) c := by
  obtain ⟨h1, h2⟩ := fac_rg hg
  have hb := h.lo
  subst hc
  refine ⟨?_, ?_, fun i hi => ?_, fun i hi => ?_⟩
  · have := Int.mul_le_mul hb h1 (by omega) (by omega)
    simpa using this
  · rw [Int.pow_succ]
    exact Int.mul_le_mul h.hi h2 (by omega) (by have := h.hi; omega)
  · by_cases e : i = k
    · rw [e]; exact hg
    · exact h.good i (by omega)
  · by_cases e : i = k
    · rw [e]; exact Int.dvd_mul_left _ _
    · exact Int.dvd_trans (h.dvd i (by omega)) (Int.dvd_mul_right _ _)
theorem ByK.same {ops : List JOp} {k : Nat} {b : Int} (h : ByK ops k b) (hg : (ops.getD k zeroP).k = 3) : ByK ops (k + 1) b := h.succ (.inr (.inr hg)) (by unfold facO; rw [if_neg (by omega), if_neg (by omega)]; omega)
theorem pow_le {k : Nat} (h : k ≤ 8) : (10 : Int) ^ k ≤ 100000000 := by
  have : k = 0 ∨ k = 1 ∨ k = 2 ∨ k = 3 ∨ k = 4 ∨ k = 5 ∨ k = 6 ∨ k = 7 ∨ k = 8 := by omega
  rcases this with rfl | rfl | rfl | rfl | rfl | rfl | rfl | rfl | rfl <;> decide
theorem ByK.fit {ops : List JOp} {k : Nat} {b : Int} (h : ByK ops k b) (n : Int) (i : Nat) (hi : i < k) : fitO (b * n) (ops.getD i zeroP) := by
  have hd := Int.dvd_trans (h.dvd i hi) (Int.dvd_mul_right b n)
  unfold facO at hd
  constructor
  · intro h1
    rw [if_pos h1] at hd
    exact hd
  · intro h2
    rw [if_neg (by omega), if_pos h2] at hd
    exact hd
theorem mul_bd {b n : Int} (h1 : 1 ≤ b) (h2 : b ≤ 100000000) (h3 : 0 ≤ n) (h4 : n ≤ 65535) : 0 ≤ b * n ∧ b * n ≤ 10000000000000 := by
  have := Int.mul_le_mul h2 h4 h3 (by omega)
  have := Int.mul_nonneg (show (0 : Int) ≤ b by omega) h3
  omega
theorem getD_rd {w : World} {A : Option Addr} {l : List JOp} (h : RdP w A l) : 0 < l.length → ∃ b off, A = some ⟨b, off, none⟩ ∧ b < w.heap.size ∧ ∀ i, i < l.length → w.cell? ⟨b, off + i * 5 + 2, none⟩ = some (.int .i64 (l.getD i zeroP).k) ∧ w.cell? ⟨b, off + i * 5 + 3, none⟩ = some (.int .i64 (l.getD i zeroP).s) ∧ w.cell? ⟨b, off + i * 5 + 4, none⟩ = some (.int .i64 (l.getD i zeroP).l) := fun hl => by
  obtain ⟨b, off, h1, h2, h3⟩ := h.1 hl
  exact ⟨b, off, h1, h2, fun i hi => ⟨(h3 i hi).2.2.1, (h3 i hi).2.2.2.1, (h3 i hi).2.2.2.2⟩⟩
set_option maxRecDepth 100000 in
set_option maxHeartbeats 4000000 in
theorem moved_early (j : Jb) (l : List Ev) (A : Option Addr) (c : Nat) (n : Int) (w : World) (h : 60 < l.length ∨ 8 < j.ops.length) : Calls Tryz.prog 7 #[jbV j, .slice A l.length c, .int .u16 n] w fun e w' => e = .returned (.bool true) ∧ Below w.heap.size w w' := by
  have HB := Lib.hid (bl_alloc (Below.refl w.heap.size w) (Obj.cells (jobcells j) 24))
  have HA := Lib.hid (awake_any (w.alloc (Obj.cells (jobcells j) 24)))
  unfold jobcells at HA HB
  obtain ⟨gr, so, bo, la, ops, jA, jc⟩ := j
  unfold jbV
  dsimp only at *
  generalize ops.length = no at *
  generalize l.length = nl at *
  have fin : ∀ (e : Ending) (w' : World), (e = .returned (.bool true) ∧ Below (w.alloc (Obj.cells #[.int .i64 gr, .int .i64 so, .int .i64 bo, .int .i64 la, .slice jA no jc] 24)).heap.size (w.alloc (Obj.cells #[.int .i64 gr, .int .i64 so, .int .i64 bo, .int .i64 la, .slice jA no jc] 24)) w') → e = .returned (.bool true) ∧ Below w.heap.size w w' := fun e w' ⟨h1, h2⟩ => ⟨h1, bl_then HB.out h2⟩
  have HF := Lib.hid fin
  clear fin
  by_cases h1 : 60 < nl
  · clear h
    go_enter Tryz.func7, Tryz.ntmps7
    go_wp2_with (fail)
    refine HA.out.mono ?_
    rintro e w' he
    obtain ⟨rfl, hb⟩ := HF.out e w' he
    have HB2 := Lib.hid hb
    clear he hb
    go_wp2_with (fail)
    go_ret
    exact ⟨rfl, HB2.out⟩
  · have h2 : 8 < no := by rcases h with h | h <;> first | exact absurd h h1 | exact h
    clear h
    go_enter Tryz.func7, Tryz.ntmps7
    go_wp2_with (fail)
    refine HA.out.mono ?_
    rintro e w' he
    obtain ⟨rfl, hb⟩ := HF.out e w' he
    have HB2 := Lib.hid hb
    clear he hb
    go_wp2_with (fail)
    go_ret
    exact ⟨rfl, HB2.out⟩
set_option maxRecDepth 100000 in
set_option maxHeartbeats 16000000 in
theorem moved_main (j : Jb) (l : List Ev) (A : Option Addr) (c : Nat) (n : Int) (w : World) (hA : RdP w j.A j.ops) (hc : j.ops.length ≤ j.c) (hcb : j.c ≤ 9223372036854775807) (ht : Tab w) (hE : RdE w A l) (hlc : l.length ≤ c) (hcm : c ≤ 9223372036854775807)
    (h1 : l.length ≤ 60) (h2 : j.ops.length ≤ 8) (h3 : 0 ≤ n) (h4 : n ≤ 65535) : Calls Tryz.prog 7 #[jbV j, .slice A l.length c, .int .u16 n] w fun e w' => e = .returned (.bool true) ∧ Below w.heap.size w w' := by
  have hb := bl_alloc (Below.refl w.heap.size w) (Obj.cells (jobcells j) 24)
  have HB := Lib.hid hb
  have HN := Lib.hid (heap_alloc_new w (Obj.cells (jobcells j) 24))
  have HE := Lib.hid (hE.below hb)
  have HA := Lib.hid (hA.below hb)
  have HT := Lib.hid (ht.below hb)
  obtain ⟨W0, hW0⟩ : ∃ W0, W0 = w.alloc (Obj.cells (jobcells j) 24) := ⟨_, rfl⟩
  have HW0 := Lib.hid hW0
  rw [← hW0] at HB HN HE HA HT
  have HJB : Hid (jbV j = .agg #[.int .i64 j.groups, .int .i64 j.sources, .int .i64 j.bound, .int .i64 j.late, .slice j.A j.ops.length j.c]) := Lib.hid rfl
  obtain ⟨jj, hjj⟩ : ∃ jj, jj = j := ⟨_, rfl⟩
  have HJJ := Lib.hid hjj
  rw [← hjj] at HA HN
  obtain ⟨gr, so, bo, la, ops, jA, jc⟩ := j
  unfold jbV
  dsimp only at *
  obtain ⟨x0, x1, x2, x3, x4⟩ := jobcells_job HN.out
  rw [HJJ.out] at x0 x1 x2 x3 x4
  have hjlt : w.heap.size < W0.heap.size := (Array.getElem?_eq_some_iff.1 HN.out).1
  have HWE : Hid (w.alloc (Obj.cells #[.int .i64 gr, .int .i64 so, .int .i64 bo, .int .i64 la, .slice jA ops.length jc] 24) = W0) := Lib.hid (by rw [HW0.out]; rfl)
  clear hjj hA ht hE hb hW0
  go_enter Tryz.func7, Tryz.ntmps7
  go_wp2_with (fail)
  rw [HWE.out]
  go_loopw [7, 8] (fun b i wr => ∃ (k : Nat) (by_ : Int), k ≤ ops.length ∧ i = .int .i64 k ∧ b = .int .i64 by_ ∧ ByK ops k by_ ∧ Below W0.heap.size W0 wr) (fun _ i _ => ops.length - (intOf i).toNat)
  case atStart => exact ⟨0, 1, Nat.zero_le _, rfl, rfl, ByK.zero ops, Below.refl _ _⟩
  case round =>
    obtain ⟨k, by_, hk, rfl, rfl, hby, hbl⟩ := hrel
    have y0 := (hbl.cell (p := ⟨w.heap.size, 0, none⟩) hjlt).trans x0
    have y1 := (hbl.cell (p := ⟨w.heap.size, 1, none⟩) hjlt).trans x1
    have y2 := (hbl.cell (p := ⟨w.heap.size, 2, none⟩) hjlt).trans x2
    have y3 := (hbl.cell (p := ⟨w.heap.size, 3, none⟩) hjlt).trans x3
    have y4 := (hbl.cell (p := ⟨w.heap.size, 4, none⟩) hjlt).trans x4
    have hjlt2 : w.heap.size < wr.heap.size := Nat.lt_of_lt_of_le hjlt hbl.size
    have HBL := Lib.hid hbl
    have HBY := Lib.hid hby
    have hb1 := hby.lo
    have hb2 := Int.le_trans hby.hi (pow_le (k := k) (by omega))
    by_cases hlt : k < ops.length
    · have HRP := HA.out.below hbl
      rw [HJJ.out] at HRP
      have HRP : RdP wr jA ops := HRP
      obtain ⟨b, off, rfl, hbw, hcell⟩ := getD_rd HRP (by omega)
      obtain ⟨d2, d3, d4⟩ := hcell k hlt
      obtain ⟨op, hop⟩ : ∃ op, ops.getD k zeroP = op := ⟨_, rfl⟩
      rw [hop] at d2 d3 d4
      have HOP := Lib.hid hop
      obtain ⟨nm, ag, ok, os, ol⟩ := op
      dsimp only at d2 d3 d4
      clear hcell HRP hbl hby hop
      have HBA : Hid (Below W0.heap.size W0 (wr.alloc (Obj.cells #[.int .i64 ok, .int .i64 os, .int .i64 ol] 46))) := Lib.hid (bl_then HBL.out (bl_alloc (Below.refl wr.heap.size wr) _))
      by_cases hk1 : ok = 1
      · subst hk1
        by_cases hs1 : 0 < os
        · by_cases hs2 : os ≤ 10
          · obtain ⟨b2, hb2⟩ : ∃ b2, by_ * os = b2 := ⟨_, rfl⟩
            have hbk2 : ByK ops (k + 1) b2 := HBY.out.succ (by rw [HOP.out]; exact .inl ⟨rfl, hs1, hs2⟩) (by rw [HOP.out, ← hb2]; rfl)
            have hr1 := hbk2.lo
            have hr2 := Int.le_trans hbk2.hi (pow_le (k := k + 1) (by omega))
            have HK2 := Lib.hid hbk2
            clear hbk2
            go_wp2_with (fail)
            exact ⟨⟨k + 1, b2, hlt, by push_cast; rfl, rfl, HK2.out, HBA.out⟩, by simp only [intOf]; omega⟩
          · have HAW := Lib.hid (awake_any (wr.alloc (Obj.cells #[.int .i64 1, .int .i64 os, .int .i64 ol] 46)))
            go_wp2_with (fail)
            refine HAW.out.mono ?_
            rintro e w7 ⟨rfl, hb7⟩
            have HB7 : Hid (Below w.heap.size w w7) := Lib.hid (bl_then HB.out (bl_then HBL.out (bl_then (bl_alloc (Below.refl wr.heap.size wr) _) hb7)))
            clear hb7
            go_wp2_with (fail)
            go_ret
            exact ⟨rfl, HB7.out⟩
        · have HAW := Lib.hid (awake_any (wr.alloc (Obj.cells #[.int .i64 1, .int .i64 os, .int .i64 ol] 46)))
          go_wp2_with (fail)
          refine HAW.out.mono ?_
          rintro e w7 ⟨rfl, hb7⟩
          have HB7 : Hid (Below w.heap.size w w7) := Lib.hid (bl_then HB.out (bl_then HBL.out (bl_then (bl_alloc (Below.refl wr.heap.size wr) _) hb7)))
          clear hb7
          go_wp2_with (fail)
          go_ret
          exact ⟨rfl, HB7.out⟩
      · by_cases hk2 : ok = 2
        · subst hk2
          by_cases hs1 : 0 < ol
          · by_cases hs2 : ol ≤ 10
            · obtain ⟨b2, hb2⟩ : ∃ b2, by_ * ol = b2 := ⟨_, rfl⟩
              have hbk2 : ByK ops (k + 1) b2 := HBY.out.succ (by rw [HOP.out]; exact .inr (.inl ⟨rfl, hs1, hs2⟩)) (by rw [HOP.out, ← hb2]; rfl)
              have hr1 := hbk2.lo
              have hr2 := Int.le_trans hbk2.hi (pow_le (k := k + 1) (by omega))
              have HK2 := Lib.hid hbk2
              clear hbk2
              go_wp2_with (fail)
              exact ⟨⟨k + 1, b2, hlt, by push_cast; rfl, rfl, HK2.out, HBA.out⟩, by simp only [intOf]; omega⟩
            · have HAW := Lib.hid (awake_any (wr.alloc (Obj.cells #[.int .i64 2, .int .i64 os, .int .i64 ol] 46)))
              go_wp2_with (fail)
              refine HAW.out.mono ?_
              rintro e w7 ⟨rfl, hb7⟩
              have HB7 : Hid (Below w.heap.size w w7) := Lib.hid (bl_then HB.out (bl_then HBL.out (bl_then (bl_alloc (Below.refl wr.heap.size wr) _) hb7)))
              clear hb7
              go_wp2_with (fail)
              go_ret
              exact ⟨rfl, HB7.out⟩
          · have HAW := Lib.hid (awake_any (wr.alloc (Obj.cells #[.int .i64 2, .int .i64 os, .int .i64 ol] 46)))
            go_wp2_with (fail)
            refine HAW.out.mono ?_
            rintro e w7 ⟨rfl, hb7⟩
            have HB7 : Hid (Below w.heap.size w w7) := Lib.hid (bl_then HB.out (bl_then HBL.out (bl_then (bl_alloc (Below.refl wr.heap.size wr) _) hb7)))
            clear hb7
            go_wp2_with (fail)
            go_ret
            exact ⟨rfl, HB7.out⟩
        · have hq1 : (ok == (1 : Int)) = false := by simpa using hk1
          have hq2 : (ok == (2 : Int)) = false := by simpa using hk2
          by_cases hk3 : ok = 3
          · have HK2 := Lib.hid (HBY.out.same (by rw [HOP.out]; exact hk3))
            subst hk3
            go_wp2_with (fail)
            exact ⟨⟨k + 1, by_, hlt, by push_cast; rfl, rfl, HK2.out, HBA.out⟩, by simp only [intOf]; omega⟩
          · have hq3 : (ok == (3 : Int)) = false := by simpa using hk3
            have HAW := Lib.hid (awake_any (wr.alloc (Obj.cells #[.int .i64 ok, .int .i64 os, .int .i64 ol] 46)))
            go_wp2_with (fail)
            refine HAW.out.mono ?_
            rintro e w7 ⟨rfl, hb7⟩
            have HB7 : Hid (Below w.heap.size w w7) := Lib.hid (bl_then HB.out (bl_then HBL.out (bl_then (bl_alloc (Below.refl wr.heap.size wr) _) hb7)))
            clear hb7
            go_wp2_with (fail)
            go_ret
            exact ⟨rfl, HB7.out⟩
    · have hke : k = ops.length := by omega
      subst hke
      obtain ⟨S, hSd⟩ : ∃ S, by_ * n = S := ⟨_, rfl⟩
      obtain ⟨hS1, hS2⟩ := mul_bd (b := by_) (n := n) hb1 hb2 h3 h4
      rw [hSd] at hS1 hS2
      have HFIT : Hid (∀ i, i < ops.length → fitO S (ops.getD i zeroP)) := Lib.hid (fun i hi => by rw [← hSd]; exact hby.fit n i hi)
      obtain ⟨W1, hW1⟩ : ∃ W1, W1 = wr := ⟨_, rfl⟩
      subst hW1
      have HBW1 := Lib.hid hbl
      clear hbl hby
      go_wp2_with (fail)
      go_loopw [11, 12] (fun v i wr => ∃ k : Nat, k ≤ l.length ∧ i = .int .i64 k ∧ wr.ownsRow W1.heap.size 26 5 v k (evrow ((l.take k).map (shE S))) ∧ Below W1.heap.size W1 wr ∧ ∀ i (h : i < l.length), i < k → 0 ≤ (l[i]).t ∧ (l[i]).t ≤ 1000000) (fun _ i _ => l.length - (intOf i).toNat)
      case atStart => exact ⟨0, Nat.zero_le _, rfl, World.ownsRow_nil _ _ _ _, Below.refl _ _, fun i h hi => absurd hi (Nat.not_lt_zero _)⟩
      case round =>
        obtain ⟨k, hk, rfl, hown, hbl2, hti⟩ := hrel
        have HTI := Lib.hid hti
        by_cases hlt : k < l.length
        · obtain ⟨b, off, rfl, hbw, hcell⟩ := ((HE.out.below HBW1.out).below hbl2).at_ (by omega)
          obtain ⟨d0, d1, d2, d3, d4⟩ := hcell k hlt
          have hsn : (l.take (k + 1)).map (shE S) = (l.take k).map (shE S) ++ [shE S l[k]] := by
            rw [List.take_succ_eq_append_getElem hlt, List.map_append]
            rfl
          obtain ⟨tk, htk⟩ : ∃ tk, tk = (l.take k).map (shE S) := ⟨_, rfl⟩
          rw [← htk] at hown hsn
          have HO := Lib.hid hown
          have HBL2 := Lib.hid hbl2
          have hbz : W1.heap.size ≤ wr.heap.size := hbl2.size
          obtain ⟨ev, hev⟩ : ∃ ev, l[k] = ev := ⟨_, rfl⟩
          rw [hev] at d0 d1 d2 d3 d4 hsn
          have HLK := Lib.hid hev
          obtain ⟨ek, esrc, et, ekey, evv⟩ := ev
          dsimp only at d0 d1 d2 d3 d4
          clear hcell hown hbl2 htk hti hev
          by_cases ht0 : et < 0
          · have HAW := Lib.hid (awake_any (wr.alloc (Obj.cells #[.int .i64 ek, .int .i64 esrc, .int .i64 et, .string ekey, .int .i64 evv] 26)))
            go_wp2_with (fail)
            refine HAW.out.mono ?_
            rintro e w7 ⟨rfl, hb7⟩
            have HB7 : Hid (Below w.heap.size w w7) := Lib.hid (bl_then HB.out (bl_then HBW1.out (bl_then HBL2.out (bl_then (bl_alloc (Below.refl wr.heap.size wr) _) hb7))))
            clear hb7
            go_wp2_with (fail)
            go_ret
            exact ⟨rfl, HB7.out⟩
          · by_cases ht1 : 1000000 < et
            · have HAW := Lib.hid (awake_any (wr.alloc (Obj.cells #[.int .i64 ek, .int .i64 esrc, .int .i64 et, .string ekey, .int .i64 evv] 26)))
              go_wp2_with (fail)
              refine HAW.out.mono ?_
              rintro e w7 ⟨rfl, hb7⟩
              have HB7 : Hid (Below w.heap.size w w7) := Lib.hid (bl_then HB.out (bl_then HBW1.out (bl_then HBL2.out (bl_then (bl_alloc (Below.refl wr.heap.size wr) _) hb7))))
              clear hb7
              go_wp2_with (fail)
              go_ret
              exact ⟨rfl, HB7.out⟩
            · have HTM : Hid (0 ≤ et ∧ et ≤ 1000000) := Lib.hid ⟨by omega, by omega⟩
              by_cases hk3 : ek = 3
              · subst hk3
                have htn : shE S ⟨3, esrc, et, ekey, evv⟩ = ⟨3, esrc, et, ekey, evv⟩ := by unfold shE; rw [if_pos rfl]
                rw [htn] at hsn
                have HSN := Lib.hid hsn
                have hba0 := bl_alloc (Below.refl wr.heap.size wr) (Obj.cells #[.int .i64 3, .int .i64 esrc, .int .i64 et, .string ekey, .int .i64 evv] 26)
                have hsz0 : (wr.alloc (Obj.cells #[.int .i64 3, .int .i64 esrc, .int .i64 et, .string ekey, .int .i64 evv] 26)).heap.size = wr.heap.size + 1 := by simp
                have hba := bl_alloc hba0 (Obj.cells #[.int .i64 3, .int .i64 esrc, .int .i64 et, .string ekey, .int .i64 evv] 26)
                have HB3 : Hid (Below W1.heap.size W1 ((wr.alloc (Obj.cells #[.int .i64 3, .int .i64 esrc, .int .i64 et, .string ekey, .int .i64 evv] 26)).alloc (Obj.cells #[.int .i64 3, .int .i64 esrc, .int .i64 et, .string ekey, .int .i64 evv] 26))) := Lib.hid (bl_then HBL2.out hba)
                have HO3 := Lib.hid (own_below HO.out hba)
                have HNR : Hid (((wr.alloc (Obj.cells #[.int .i64 3, .int .i64 esrc, .int .i64 et, .string ekey, .int .i64 evv] 26)).alloc (Obj.cells #[.int .i64 3, .int .i64 esrc, .int .i64 et, .string ekey, .int .i64 evv] 26)).ownsRow 0 26 5 (.slice (some ⟨wr.heap.size + 1, 0, none⟩) 1 1) 1 (evrow [⟨3, esrc, et, ekey, evv⟩])) := Lib.hid (own_one (news := evrow [⟨3, esrc, et, ekey, evv⟩]) (by rw [← hsz0]; exact heap_alloc_new _ _) rfl (Nat.zero_le _))
                have HON := Lib.hid (evrow_one [⟨3, esrc, et, ekey, evv⟩])
                have hbz2 : W1.heap.size ≤ ((wr.alloc (Obj.cells #[.int .i64 3, .int .i64 esrc, .int .i64 et, .string ekey, .int .i64 evv] 26)).alloc (Obj.cells #[.int .i64 3, .int .i64 esrc, .int .i64 et, .string ekey, .int .i64 evv] 26)).heap.size := HB3.out.size
                have HTK : Hid (∀ i (h : i < l.length), i < k + 1 → 0 ≤ (l[i]).t ∧ (l[i]).t ≤ 1000000) := Lib.hid (fun i hi hik => by
                  by_cases e : i = k
                  · subst e; rw [HLK.out]; exact HTM.out
                  · exact HTI.out i hi (by omega))
                clear hba hba0 hsz0 hsn htn
                go_wp2_with (at_builtin; refine wpList_append_row _ rfl _ _ 49 26 5 48 (.agg #[.int .i64 0, .int .i64 0, .int .i64 0, .string ⟨#[]⟩, .int .i64 0]) und49' i26 rfl (by decide) (by decide) rfl W1.heap.size 0 k u11 _ rfl HO3.out _ 1 _ rfl HNR.out HON.out (by omega) hbz2 ?_)
                intro v7 w7 ho7 hg7 hl7
                have HB7 := Lib.hid (HB3.out.grown hg7 HB3.out.size (fun b hb => (HO3.out.lt b hb).1))
                have HO7 : Hid (w7.ownsRow W1.heap.size 26 5 v7 (k + 1) (evrow ((l.take (k + 1)).map (shE S)))) := Lib.hid (by rw [HSN.out, evrow_app]; exact ho7)
                clear ho7 hg7 hl7
                go_wp2_with (fail)
                exact ⟨⟨k + 1, hlt, by push_cast; rfl, HO7.out, HB7.out, HTK.out⟩, by simp only [intOf]; omega⟩
              · have hq3 : (ek == (3 : Int)) = false := by simpa using hk3
                have htn : shE S ⟨ek, esrc, et, ekey, evv⟩ = ⟨ek, esrc, et + S, ekey, evv⟩ := by unfold shE; rw [if_neg hk3]
                rw [htn] at hsn
                have HSN := Lib.hid hsn
                have hba0 := bl_alloc (Below.refl wr.heap.size wr) (Obj.cells #[.int .i64 ek, .int .i64 esrc, .int .i64 (et + S), .string ekey, .int .i64 evv] 26)
                have hsz0 : (wr.alloc (Obj.cells #[.int .i64 ek, .int .i64 esrc, .int .i64 (et + S), .string ekey, .int .i64 evv] 26)).heap.size = wr.heap.size + 1 := by simp
                have hba := bl_alloc hba0 (Obj.cells #[.int .i64 ek, .int .i64 esrc, .int .i64 (et + S), .string ekey, .int .i64 evv] 26)
                have HB3 : Hid (Below W1.heap.size W1 ((wr.alloc (Obj.cells #[.int .i64 ek, .int .i64 esrc, .int .i64 (et + S), .string ekey, .int .i64 evv] 26)).alloc (Obj.cells #[.int .i64 ek, .int .i64 esrc, .int .i64 (et + S), .string ekey, .int .i64 evv] 26))) := Lib.hid (bl_then HBL2.out hba)
                have HO3 := Lib.hid (own_below HO.out hba)
                have HNR : Hid (((wr.alloc (Obj.cells #[.int .i64 ek, .int .i64 esrc, .int .i64 (et + S), .string ekey, .int .i64 evv] 26)).alloc (Obj.cells #[.int .i64 ek, .int .i64 esrc, .int .i64 (et + S), .string ekey, .int .i64 evv] 26)).ownsRow 0 26 5 (.slice (some ⟨wr.heap.size + 1, 0, none⟩) 1 1) 1 (evrow [⟨ek, esrc, et + S, ekey, evv⟩])) := Lib.hid (own_one (news := evrow [⟨ek, esrc, et + S, ekey, evv⟩]) (by rw [← hsz0]; exact heap_alloc_new _ _) rfl (Nat.zero_le _))
                have HON := Lib.hid (evrow_one [⟨ek, esrc, et + S, ekey, evv⟩])
                have hbz2 : W1.heap.size ≤ ((wr.alloc (Obj.cells #[.int .i64 ek, .int .i64 esrc, .int .i64 (et + S), .string ekey, .int .i64 evv] 26)).alloc (Obj.cells #[.int .i64 ek, .int .i64 esrc, .int .i64 (et + S), .string ekey, .int .i64 evv] 26)).heap.size := HB3.out.size
                have HTK : Hid (∀ i (h : i < l.length), i < k + 1 → 0 ≤ (l[i]).t ∧ (l[i]).t ≤ 1000000) := Lib.hid (fun i hi hik => by
                  by_cases e : i = k
                  · subst e; rw [HLK.out]; exact HTM.out
                  · exact HTI.out i hi (by omega))
                clear hba hba0 hsz0 hsn htn
                go_wp2_with (at_builtin; refine wpList_append_row _ rfl _ _ 49 26 5 48 (.agg #[.int .i64 0, .int .i64 0, .int .i64 0, .string ⟨#[]⟩, .int .i64 0]) und49' i26 rfl (by decide) (by decide) rfl W1.heap.size 0 k u11 _ rfl HO3.out _ 1 _ rfl HNR.out HON.out (by omega) hbz2 ?_)
                intro v7 w7 ho7 hg7 hl7
                have HB7 := Lib.hid (HB3.out.grown hg7 HB3.out.size (fun b hb => (HO3.out.lt b hb).1))
                have HO7 : Hid (w7.ownsRow W1.heap.size 26 5 v7 (k + 1) (evrow ((l.take (k + 1)).map (shE S)))) := Lib.hid (by rw [HSN.out, evrow_app]; exact ho7)
                clear ho7 hg7 hl7
                go_wp2_with (fail)
                exact ⟨⟨k + 1, hlt, by push_cast; rfl, HO7.out, HB7.out, HTK.out⟩, by simp only [intOf]; omega⟩
        · have hke : k = l.length := by omega
          subst hke
          rw [List.take_length] at hown
          have hlen : l.length = (l.map (shE S)).length := by rw [List.length_map]
          have hok2 : ∀ e ∈ l, 0 ≤ e.t ∧ e.t ≤ 1000000 := fun e he => by
            obtain ⟨i, hi, rfl⟩ := List.getElem_of_mem he
            exact hti i hi hi
          have hokt : ∀ e ∈ l.map (shE S), okN e.key ∧ i64 e.v := by
            intro e he
            obtain ⟨e0, he0, rfl⟩ := List.mem_map.1 he
            rw [(shE_k S e0).2.1, (shE_k S e0).2.2]
            exact HE.out.2 e0 he0
          have hb01 : Below W0.heap.size W0 wr := bl_then HBW1.out hbl2
          have hnw := (hb01.block w.heap.size hjlt).trans HN.out
          obtain ⟨z0, z1, z2, z3, z4⟩ := jobcells_job hnw
          rw [HJJ.out] at z0 z1 z2 z3 z4
          have hjlt3 : w.heap.size < wr.heap.size := (Array.getElem?_eq_some_iff.1 hnw).1
          obtain ⟨A2, c2, hv, hlc2, hcm2, hRE2⟩ := own_rde hown hlen hokt
          have hag : Value.agg #[.int .i64 gr, .int .i64 so, .int .i64 bo, .int .i64 la, .slice jA ops.length jc] = jbV jj := by rw [HJJ.out]; exact HJB.out.symm
          have hcj : jj.ops.length ≤ jj.c := by rw [HJJ.out]; exact hc
          have hcj2 : jj.c ≤ 9223372036854775807 := by rw [HJJ.out]; exact hcb
          have HC1 : Hid (Calls Tryz.prog 18 #[.agg #[.int .i64 gr, .int .i64 so, .int .i64 bo, .int .i64 la, .slice jA ops.length jc], .slice A l.length c] wr (AllR wr jj l)) := Lib.hid (by
            rw [hag]
            exact all_any jj l A c wr (HA.out.below hb01) hcj hcj2 (HT.out.below hb01) (HE.out.below hb01) hlc hcm (by omega))
          have HC2 : Hid (∀ W, Below wr.heap.size wr W → Calls Tryz.prog 18 #[.agg #[.int .i64 gr, .int .i64 so, .int .i64 bo, .int .i64 la, .slice jA ops.length jc], .slice A2 l.length c2] W (AllR W jj (l.map (shE S)))) := Lib.hid (fun W hW => by
            rw [hag]
            have h := all_any jj (l.map (shE S)) A2 c2 W ((HA.out.below hb01).below hW) hcj hcj2 ((HT.out.below hb01).below hW) (hRE2.below hW) hlc2 hcm2 (by rw [← hlen]; omega)
            rw [← hlen] at h
            exact h)
          have HLAW := Lib.hid (moved_law hS1 hS2 (j := jj) (fun _ i hi => by rw [HJJ.out] at hi ⊢; exact HFIT.out i hi) hok2)
          have HPN : Hid (∀ o, allQ jj l = some o → ∀ x ∈ o, PnOk jj x.1) := Lib.hid (fun o ho => all_pn (fun e he => (HE.out.2 e he).2) ho)
          have HBB : Hid (Below w.heap.size w wr) := Lib.hid (bl_then HB.out hb01)
          rw [hv]
          rw [← hlen]
          clear hown hRE2 hnw hokt hbl2 hv hlen hag hcj hcj2 hb01 hok2 hti y0 y1 y2 y3 y4
          go_wp2_with (fail)
          refine HC1.out.mono ?_
          rintro e w2 har
          obtain ⟨hb2, har⟩ := allQ_ou har
          have HB2 := Lib.hid (bl_then HBB.out hb2)
          have HC3 := Lib.hid (HC2.out w2 hb2)
          have y0 := (hb2.cell (p := ⟨w.heap.size, 0, none⟩) hjlt3).trans z0
          have y1 := (hb2.cell (p := ⟨w.heap.size, 1, none⟩) hjlt3).trans z1
          have y2 := (hb2.cell (p := ⟨w.heap.size, 2, none⟩) hjlt3).trans z2
          have y3 := (hb2.cell (p := ⟨w.heap.size, 3, none⟩) hjlt3).trans z3
          have y4 := (hb2.cell (p := ⟨w.heap.size, 4, none⟩) hjlt3).trans z4
          have hjlt4 : w.heap.size < w2.heap.size := Nat.lt_of_lt_of_le hjlt3 hb2.size
          clear hb2 z0 z1 z2 z3 z4
          rcases har with ⟨rfl, ha1⟩ | ⟨o1, A1, c1, rfl, ha1, hl1, hc1, hm1, hr1⟩
          · go_wp2_with (fail)
            refine HC3.out.mono ?_
            rintro e w3 har2
            obtain ⟨hb3, har2⟩ := allQ_ou har2
            have HB3 := Lib.hid (bl_then HB2.out hb3)
            have HAW := Lib.hid (awake_any w3)
            clear hb3
            rcases har2 with ⟨rfl, ha2⟩ | ⟨o2, A3, c3, rfl, ha2, hl2, hc3, hm2, hr2⟩
            · go_wp2_with (fail)
              go_loopw [18] (fun i wr => i = .int .i64 0 ∧ wr = w3) (fun _ _ => 0)
              case atStart => exact ⟨rfl, rfl⟩
              case round =>
                obtain ⟨rfl, rfl⟩ := hrel
                go_wp2_with (fail)
                refine HAW.out.mono ?_
                rintro e w4 ⟨rfl, hb4⟩
                have HB4 := Lib.hid (bl_then HB3.out hb4)
                clear hb4
                go_wp2_with (fail)
                go_ret
                exact ⟨rfl, HB4.out⟩
            · exfalso
              rw [HLAW.out, ha1] at ha2
              cases ha2
          · have HR1 := Lib.hid hr1
            have HP1 := Lib.hid (HPN.out o1 ha1)
            clear hr1
            go_wp2_with (fail)
            refine HC3.out.mono ?_
            rintro e w3 har2
            obtain ⟨hb3, har2⟩ := allQ_ou har2
            have HB3 := Lib.hid (bl_then HB2.out hb3)
            have HR13 := Lib.hid (HR1.out.below hb3)
            clear hb3
            rcases har2 with ⟨rfl, ha2⟩ | ⟨o2, A3, c3, rfl, ha2, hl2, hc3, hm2, hr2⟩
            · exfalso
              rw [HLAW.out, ha1] at ha2
              cases ha2
            · have e2 : o2 = o1.map (shT S) := by
                rw [HLAW.out, ha1] at ha2
                exact (Option.some.inj ha2).symm
              have HL1 := Lib.hid hl1
              have hl12 : o2.length = o1.length := by rw [e2, List.length_map]
              have HR2 := hr2
              rw [e2, shT_ou] at HR2
              obtain ⟨us, hus⟩ : ∃ us, us = o1.map (otV FT jj) := ⟨_, rfl⟩
              rw [← hus] at HR2 HR13
              have hul : us.length = o1.length := by rw [hus, List.length_map]
              have HPU : Hid (∀ u ∈ us, -3000000000000000 ≤ u.f ∧ u.f ≤ 3000000000000000 ∧ -3000000000000000 ≤ u.t ∧ u.t ≤ 3000000000000000) := Lib.hid (fun u hu => by
                rw [hus] at hu
                obtain ⟨x, hx, rfl⟩ := List.mem_map.1 hu
                have h1 := may_bd.1 (HP1.out x hx).may
                show -3000000000000000 ≤ x.1.f ∧ x.1.f ≤ 3000000000000000 ∧ -3000000000000000 ≤ x.1.t ∧ x.1.t ≤ 3000000000000000
                dsimp only at h1
                omega)
              obtain ⟨m, hm⟩ : ∃ m, m = o1.length := ⟨_, rfl⟩
              rw [hl12, ← hm]
              rw [hl12, ← hm] at hc3
              rw [← hm] at hc1
              have HUL : Hid (us.length = m) := Lib.hid (by omega)
              have HR2' := Lib.hid HR2
              unfold maxLen at hm1 hm2
              clear hr2 HR2 hl1 hl2 ha1 ha2 e2 hl12 hul hus hm
              go_wp2_with (fail)
              go_loopw [18] (fun i wr => ∃ k : Nat, k ≤ m ∧ i = .int .i64 k ∧ Below w3.heap.size w3 wr) (fun i _ => m - (intOf i).toNat)
              case atStart => exact ⟨0, Nat.zero_le _, rfl, Below.refl _ _⟩
              case round =>
                obtain ⟨k, hk, rfl, hbl3⟩ := hrel
                have HBL3 := Lib.hid hbl3
                by_cases hlt : k < m
                · have h1 : k < us.length := by have := HUL.out; omega
                  obtain ⟨g, rfl, hg, hx⟩ := (HR13.out.below hbl3) (by omega)
                  obtain ⟨g2, rfl, hg2, hx2⟩ := (HR2'.out.below hbl3) (by rw [List.length_map]; omega)
                  obtain ⟨x0, x1, x2, x3, x4, x5⟩ := hx k h1
                  obtain ⟨y0, y1, y2, y3, y4, y5⟩ := hx2 k (by rw [List.length_map]; exact h1)
                  rw [List.getElem_map] at y0 y1 y2 y3 y4 y5
                  have hpb := HPU.out us[k] (List.getElem_mem _)
                  have hq := fun W => neq_ou W (shO S us[k]) (shO S us[k])
                  rw [show decide (shO S us[k] ≠ shO S us[k]) = false by simp] at hq
                  unfold ouA shO at hq
                  unfold shO at y0 y1 y2 y3 y4 y5
                  generalize us[k] = u at *
                  obtain ⟨uop, ukey, uf, ut, us_, ua⟩ := u
                  dsimp only at x0 x1 x2 x3 x4 x5 y0 y1 y2 y3 y4 y5 hpb hq
                  have HBE : Hid (∀ o, Below w3.heap.size w3 ((wr.alloc o).drew)) := Lib.hid (fun o => (bl_then HBL3.out (bl_alloc (Below.refl wr.heap.size wr) o)).drew)
                  clear hx hx2 hbl3
                  go_wp2_with (fail)
                  go_region
                  go_wp2_with (fail)
                  exact ⟨⟨k + 1, hlt, by push_cast; rfl, HBE.out _⟩, by simp only [intOf]; omega⟩
                · have hke : k = m := by omega
                  subst hke
                  have HAW := Lib.hid (awake_any wr)
                  have HBF := Lib.hid (bl_then HB3.out hbl3)
                  clear hbl3
                  go_wp2_with (fail)
                  refine HAW.out.mono ?_
                  rintro e w4 ⟨rfl, hb4⟩
                  have HB4 := Lib.hid (bl_then HBF.out hb4)
                  clear hb4
                  go_wp2_with (fail)
                  go_ret
                  exact ⟨rfl, HB4.out⟩
theorem u16_rg {n : Int} (h : (Lit.int .u16 n).wf = true) : 0 ≤ n ∧ n ≤ 65535 := by
  simpa [Lit.wf, IntKind.min, IntKind.max, IntKind.signed, IntKind.bits] using h
/-- ModelMoved, walked. -/
theorem mmoved_law (j : Jb) (l : List Ev) (A : Option Addr) (c : Nat) (n : Int) (w : World) (hA : RdP w j.A j.ops) (hc : j.ops.length ≤ j.c) (hcb : j.c ≤ 9223372036854775807) (ht : Tab w) (hE : RdE w A l) (hlc : l.length ≤ c) (hcm : c ≤ 9223372036854775807) (h3 : 0 ≤ n) (h4 : n ≤ 65535) : Calls Tryz.prog 7 #[jbV j, .slice A l.length c, .int .u16 n] w fun e w' => e = .returned (.bool true) ∧ Below w.heap.size w w' := by
  by_cases h : 60 < l.length ∨ 8 < j.ops.length
  · exact moved_early j l A c n w h
  · have h1 : ¬ 60 < l.length := fun hh => h (.inl hh)
    have h2 : ¬ 8 < j.ops.length := fun hh => h (.inr hh)
    exact moved_main j l A c n w hA hc hcb ht hE hlc hcm (by omega) (by omega) h3 h4
end Go.Proofs.YtfojblbnhapedaaGreatDoor
