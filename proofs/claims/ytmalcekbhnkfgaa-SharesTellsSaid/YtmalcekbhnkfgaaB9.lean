/- Contracts of share, of Add where the point may not come, of great. Conditions: as each theorem states them. -/
import Derived.Test.YtmalcekbhnkfgaaB6
import Derived.Test.YtmalcekbhnkfgaaA8
namespace Go.Proofs.Ytmalcekbhnkfgaa
open Go.RowKit Go.Maps Go.Shelf
set_option linter.unusedVariables false
set_option linter.unusedSimpArgs false

set_option maxHeartbeats 1000000 in
theorem share_any (n : Int) (w : World) : Calls Try.prog 28 #[.int .u64 n] w fun e w' => e = .returned (.agg #[.int .u64 n, .int .i64 5, .int .u32 1, .int .u64 n]) ∧ Below w.heap.size w w' := by
  go_enter Try.func28, Try.ntmps28
  go_wp2_with (fail)
  refine bodyPost_ret (v := .agg #[.int .u64 n, .int .i64 5, .int .u32 1, .int .u64 n]) (by simp only [results, Try.results28]; go_simp) rfl ?_
  exact ⟨rfl, by first | exact bl_alloc (Below.refl _ _) _ | exact (bl_alloc (Below.refl _ _) _).drew⟩
set_option maxRecDepth 100000 in
set_option maxHeartbeats 4000000 in
theorem add_arg (A : Option Addr) (n c : Nat) (l : List Pt) (p : Pt) (w : World) (hl : l.length = n) (hA : RdP w w.heap.size A l) (hr : RightP l) (hp : mayP p) (hpr : RdS w w.heap.size p.A p.fs) (hn : 0 < n) (hlast : p.id ≤ (l.getD (n - 1) zeroP).id) :
    Calls Try.prog 13 #[.slice A n c, ptV p] w fun e w' => e = .returned (.tuple #[.slice none 0 0, .int .i64 2]) ∧ Below w.heap.size w w' := by
  obtain ⟨b, off, rfl, hb, _, hc⟩ := hA.1 (by omega)
  have hlc := (hc (n - 1) (by omega)).1
  obtain ⟨v, hv⟩ : ∃ v, (l.getD (n - 1) zeroP).id = v := ⟨_, rfl⟩
  rw [hv] at hlc hlast
  have hrt := rightB_t hr
  have hmt := mayB_t hp
  have hn16 : n ≤ 16 := by have := hr.1; omega
  have hR := fun (X : World) (h : Below w.heap.size w X) => right_any (some ⟨b, off, none⟩) c l X ((hA.below h).more h.size (Nat.le_refl _))
  rw [hl, hrt] at hR
  have hM := fun (X : World) (h : Below w.heap.size w X) => may_any p X ((hpr.below h).more h.size (Nat.le_refl _))
  rw [hmt] at hM
  have HR := Lib.hid hR
  have HM := Lib.hid hM
  have HLC := Lib.hid hlc
  have hn0 : (0 : Int) < (n : Int) := by omega
  have hj0 : (0 : Int) ≤ (n : Int) - 1 := by omega
  have hj1 : (n : Int) - 1 < (n : Int) := by omega
  have hjn : ((n : Int) - 1).toNat = n - 1 := by omega
  clear hR hM hlc hc hA hpr hr hp hrt hmt hv hl
  obtain ⟨pid, pfs, pA, pc⟩ := p
  unfold ptV at *
  dsimp only at *
  refine (callsIn_wide (n := 10)).1 ?_
  refine callsIn_of_wp_marks Try.func13 rfl trivial ?_ rfl
  refine wpIn_wide.2 ?_
  simp only [Try.ntmps13, List.size_toArray, List.length_cons, List.length_nil, Nat.reduceAdd, Nat.reduceSub, Array.replicate_succ, Array.replicate_zero, List.push_toArray, List.append_toArray, List.nil_append, List.cons_append]
  go_wp2_with (fail)
  obtain ⟨WA, hWA⟩ : ∃ WA, WA = ((w.alloc (Obj.cells #[.int .u64 pid, .slice pA pfs.length pc] 26)).alloc (Obj.cells #[.slice none 0 0] 22)).alloc (Obj.cells #[.int .i64 0] 30) := ⟨_, rfl⟩
  have x0 : WA.cell? ⟨w.heap.size, 0, none⟩ = some (.int .u64 pid) := by rw [hWA]; go_keep
  have x1 : WA.cell? ⟨w.heap.size, 1, none⟩ = some (.slice pA pfs.length pc) := by rw [hWA]; go_keep
  have b4 : Boxed WA (w.heap.size + 1) 22 (.slice none 0 0) := by
    rw [hWA]
    simpa using (Boxed.new (w.alloc (Obj.cells #[.int .u64 pid, .slice pA pfs.length pc] 26)) 22 (.slice none 0 0)).alloc (Obj.cells #[.int .i64 0] 30)
  have b5 : Boxed WA (w.heap.size + 1 + 1) 30 (.int .i64 0) := by
    rw [hWA]
    simpa using Boxed.new ((w.alloc (Obj.cells #[.int .u64 pid, .slice pA pfs.length pc] 26)).alloc (Obj.cells #[.slice none 0 0] 22)) 30 (.int .i64 0)
  have hbA : Below w.heap.size w WA := by rw [hWA]; exact bl_alloc (bl_alloc (bl_alloc (Below.refl _ _) _) _) _
  have hsA : WA.heap.size = w.heap.size + 3 := by rw [hWA]; simp
  rw [← hWA]
  clear hWA
  have hlc := (hbA.cell (p := ⟨b, off + (n - 1) * 2, none⟩) hb).trans HLC.out
  have HX : Hid (∀ X : Ext WA, Calls Try.prog 16 #[.slice (some ⟨b, off, none⟩) n c] X.val fun e w' => e = .returned (.bool true) ∧ Below X.val.heap.size X.val w') := Lib.hid fun X => HR.out X.val (hbA.trans (X.bl.mono (by omega)))
  have HY : Hid (∀ X : Ext WA, Calls Try.prog 29 #[.agg #[.int .u64 pid, .slice pA pfs.length pc]] X.val fun e w' => e = .returned (.bool true) ∧ Below X.val.heap.size X.val w') := Lib.hid fun X => HM.out X.val (hbA.trans (X.bl.mono (by omega)))
  have H0 : Hid (decide ((0 : Int) < (n : Int)) = true) := dec_t hn0
  have H0n : Hid (decide (0 < n) = true) := dec_t (by omega)
  have H1 : Hid (decide (pid ≤ v) = true) := dec_t hlast
  have e0 := ext_cell x0
  have e1 := ext_cell x1
  have e2 := ext_cell hlc
  have B4 := Lib.hid b4
  have B5 := Lib.hid b5
  have HBA := Lib.hid hbA
  clear b4 b5 hbA
  refine wp_region_ext (by kernel_rfl) (by kernel_rfl) ?_
  repeat (first | rw [H0.out] | rw [H0n.out] | rw [H1.out] | go_big_quiet_step (first | (go_at_call 16; exact ext_calls (HX.out _)) | (go_at_call 29; exact ext_calls (HY.out _))))
  refine wpQuiet_nil ?_
  rintro w2 ⟨⟨_, hb2⟩, rfl⟩
  have hs2 := hb2.size
  have b4 : Boxed w2 (w.heap.size + 1) 22 (.slice none 0 0) := (hb2.block _ (by omega)).trans B4.out
  have b5 : Boxed w2 (w.heap.size + 1 + 1) 30 (.int .i64 0) := (hb2.block _ (by omega)).trans B5.out
  have c4 := b4.cell
  have f4 := b4.frozen
  have c5 := b5.cell
  have f5 := b5.frozen
  have HB2 := Lib.hid (HBA.out.trans (hb2.mono (by omega)))
  clear hb2 e0 e1 e2
  go_wp2_with (fail)
  have q4 := (b4.set (.slice none 0 0)).other (B' := w.heap.size + 1 + 1) (by omega) (.int .i64 2)
  have q5 : Boxed ((w2.setCell ⟨w.heap.size + 1, 0, none⟩ (.slice none 0 0)).setCell ⟨w.heap.size + 1 + 1, 0, none⟩ (.int .i64 2)) (w.heap.size + 1 + 1) 30 (.int .i64 2) := Boxed.set _ (b5.other (B' := w.heap.size + 1) (by omega) (.slice none 0 0))
  have k4 := q4.cell
  have k5 := q5.cell
  refine ⟨.tuple #[.slice none 0 0, .int .i64 2], by simp [results, Try.f13, go_sem, k4, k5], rfl, (HB2.out.setCell (p := ⟨w.heap.size + 1, 0, none⟩) (by dsimp only; omega) _).setCell (p := ⟨w.heap.size + 1 + 1, 0, none⟩) (by dsimp only; omega) _⟩
end Go.Proofs.Ytmalcekbhnkfgaa
namespace Go.Proofs.Ytmalcekbhnkfgaa
open Go.RowKit Go.Maps Go.Shelf
set_option linter.unusedVariables false
set_option linter.unusedSimpArgs false

/-- Few points, with few files each. -/
def smallP (l : List Pt) : Prop := l.length ≤ 20 ∧ ∀ p ∈ l, p.fs.length ≤ 300
/-- What great answers. -/
def GreatR (l : List Pt) (e : Ending) : Prop := ∃ b : Bool, e = .returned (.bool b) ∧ (b = false → smallP l)
set_option maxRecDepth 100000 in
set_option maxHeartbeats 4000000 in
theorem great_few (A : Option Addr) (n c : Nat) (l : List Pt) (w : World) (hl : l.length = n) (hn : n ≤ 20) (hA : RdP w w.heap.size A l) :
    Calls Try.prog 10 #[.slice A n c] w fun e w' => GreatR l e ∧ w = w' := by
  have hni : ¬ (20 : Int) < (n : Int) := by omega
  have HLN := Lib.hid hl
  have HA := Lib.hid hA
  clear hl hA
  go_enter Try.func10, Try.ntmps10
  go_wp2_with (fail)
  go_loopw [3, 4] (fun vs vi wr => ∃ (i s : Nat), i ≤ n ∧ s ≤ i * 300 ∧ vs = .int .i64 s ∧ vi = .int .i64 i ∧ (∀ p ∈ l.take i, p.fs.length ≤ 300) ∧ w = wr) (fun _ i _ => n - (intOf i).toNat)
  case atStart => exact ⟨0, 0, Nat.zero_le _, Nat.le_refl _, rfl, rfl, by simp, rfl⟩
  case round =>
    obtain ⟨i, s, hin, hs, rfl, rfl, hf, rfl⟩ := hrel
    have HF := Lib.hid hf
    clear hf
    by_cases hi : i < n
    · have hi0 : (0 : Int) ≤ (i : Int) := by omega
      have hi1 : (i : Int) < (n : Int) := by omega
      have hil : i < l.length := by rw [HLN.out]; exact hi
      obtain ⟨b, off, rfl, hb, _, hc⟩ := HA.out.1 (by omega)
      obtain ⟨_, a1⟩ := hc i hil
      have hsn := take_snocP hil
      obtain ⟨p, hp⟩ : ∃ p, l.getD i zeroP = p := ⟨_, rfl⟩
      rw [hp] at a1 hsn
      have HSN := Lib.hid hsn
      clear hc hsn hp hil
      obtain ⟨m, hm⟩ : ∃ m, p.fs.length = m := ⟨_, rfl⟩
      rw [hm] at a1
      have HM := Lib.hid hm
      have hs0 : (0 : Int) ≤ (s : Int) := by omega
      have hs1 : (s : Int) ≤ 6000 := by omega
      have hm0 : (0 : Int) ≤ (m : Int) := by omega
      clear hm
      by_cases hm3 : m ≤ 300
      · have hm1 : (m : Int) ≤ 300 := by omega
        have hde : decide ((300 : Int) < (m : Int)) = false := decide_eq_false (by omega)
        have hns : ¬ (300 : Int) < (m : Int) := by omega
        have HV : Hid (∀ q ∈ l.take (i + 1), q.fs.length ≤ 300) := Lib.hid (fun q hq => by
          rw [HSN.out] at hq
          rcases List.mem_append.1 hq with h | h
          · exact HF.out q h
          · rw [List.mem_singleton.1 h, HM.out]; exact hm3)
        go_wp2_with (fail)
        go_roundw
        case rel => exact ⟨i + 1, s + m, by omega, by omega, by first | rfl | (push_cast; rfl) | go_num, by first | rfl | (push_cast; rfl) | go_num, HV.out, by first | trivial | rfl⟩
        case measure => simp [intOf]; omega
      · have hns : (300 : Int) < (m : Int) := by omega
        go_wp2_with (fail)
        go_ret
        exact ⟨⟨true, rfl, (fun h => by cases h)⟩, rfl⟩
    · have hine : i = n := by omega
      subst hine
      have hirr : ¬ (i : Int) < (i : Int) := by omega
      have HV : Hid (smallP l) := Lib.hid ⟨by rw [HLN.out]; exact hn, by have := HF.out; rwa [List.take_of_length_le (by rw [HLN.out]; exact Nat.le_refl _)] at this⟩
      go_wp2_with (fail)
      go_ret
      exact ⟨⟨_, rfl, fun _ => HV.out⟩, rfl⟩
set_option maxHeartbeats 1000000 in
theorem great_many (A : Option Addr) (n c : Nat) (w : World) (hn : 20 < n) :
    Calls Try.prog 10 #[.slice A n c] w fun e w' => e = .returned (.bool true) ∧ w = w' := by
  have hni : (20 : Int) < (n : Int) := by omega
  clear hn
  go_enter Try.func10, Try.ntmps10
  go_wp2_with (fail)
  go_ret
  exact ⟨rfl, rfl⟩
theorem great_any (A : Option Addr) (c : Nat) (l : List Pt) (w : World) (hA : RdP w w.heap.size A l) :
    Calls Try.prog 10 #[.slice A l.length c] w fun e w' => GreatR l e ∧ w = w' := by
  by_cases hn : l.length ≤ 20
  · exact great_few A l.length c l w rfl hn hA
  · refine (great_many A l.length c w (by omega)).mono ?_
    rintro e w' ⟨rfl, rfl⟩
    exact ⟨⟨true, rfl, (fun h => by cases h)⟩, rfl⟩
end Go.Proofs.Ytmalcekbhnkfgaa
namespace Go.Proofs.Ytmalcekbhnkfgaa
open Go.RowKit Go.Maps Go.Shelf
set_option linter.unusedVariables false
set_option linter.unusedSimpArgs false

def s7 : Sh := ⟨7, 5, 1, 7, by decide, by decide, by decide, by decide⟩
def s8 : Sh := ⟨8, 5, 1, 8, by decide, by decide, by decide, by decide⟩
def s9 : Sh := ⟨9, 5, 1, 9, by decide, by decide, by decide, by decide⟩
def twoC (f g : Sh) : Array Value := #[.int .u64 f.tb, .int .i64 f.sz, .int .u32 f.sm, .int .u64 f.nm, .int .u64 g.tb, .int .i64 g.sz, .int .u32 g.sm, .int .u64 g.nm]
theorem two_rd (w : World) (f g : Sh) : RdS (w.alloc (Obj.cells (twoC f g) 36)) (w.heap.size + 1) (some ⟨w.heap.size, 0, none⟩) [f, g] := by
  intro _
  refine ⟨w.heap.size, 0, rfl, by omega, by simp, fun i hi => ?_⟩
  have h : (w.alloc (Obj.cells (twoC f g) 36)).heap[w.heap.size]? = some (Obj.cells (twoC f g) 36) := World.alloc_heap_new w _
  generalize (w.alloc (Obj.cells (twoC f g) 36)) = W at *
  match i, hi with
  | 0, _ => simp [World.cell?, h, twoC]
  | 1, _ => simp [World.cell?, h, twoC]
theorem ok78 : okFs [s7, s8] := by
  refine ⟨fun f hf => ?_, by decide, by decide⟩
  have h : f = s7 ∨ f = s8 := by simpa using hf
  rcases h with rfl | rfl <;> exact ⟨⟨by decide, by decide⟩, ⟨by decide, by decide⟩, by decide, by decide⟩
theorem ok89 : okFs [s8, s9] := by
  refine ⟨fun f hf => ?_, by decide, by decide⟩
  have h : f = s8 ∨ f = s9 := by simpa using hf
  rcases h with rfl | rfl <;> exact ⟨⟨by decide, by decide⟩, ⟨by decide, by decide⟩, by decide, by decide⟩
/-- The two points that awake makes. -/
def l0 (a b : Nat) : List Pt := [⟨1, [s7, s8], some ⟨a, 0, none⟩, 2⟩, ⟨2, [s8, s9], some ⟨b, 0, none⟩, 2⟩]
theorem l0_flat (a b : Nat) : flat 0 (l0 a b) = [(0, s7), (0, s8), (1, s8), (1, s9)] := rfl
theorem l0_right (a b : Nat) : RightP (l0 a b) := by
  refine ⟨by show (2 : Nat) ≤ 16; omega, fun p hp => ?_, ?_, ?_⟩
  · have h : p = ⟨1, [s7, s8], some ⟨a, 0, none⟩, 2⟩ ∨ p = ⟨2, [s8, s9], some ⟨b, 0, none⟩, 2⟩ := by simpa [l0] using hp
    rcases h with rfl | rfl
    · exact ⟨⟨by dsimp only; omega, by dsimp only; omega⟩, by show (2 : Nat) ≤ 256; omega, ok78⟩
    · exact ⟨⟨by dsimp only; omega, by dsimp only; omega⟩, by show (2 : Nat) ≤ 256; omega, ok89⟩
  · simp [idsUp, l0]
  · intro f hf g hg e
    have h1 : f = s7 ∨ f = s8 ∨ f = s8 ∨ f = s9 := by simpa [allF, l0_flat] using hf
    have h2 : g = s7 ∨ g = s8 ∨ g = s8 ∨ g = s9 := by simpa [allF, l0_flat] using hg
    rcases h1 with rfl | rfl | rfl | rfl <;> rcases h2 with rfl | rfl | rfl | rfl <;> first | rfl | (exfalso; revert e; decide)
theorem l0_cnt (a b : Nat) : cntL (l0 a b) = [9, 8, 8, 7] := by
  unfold cntL
  rw [if_pos (l0_right a b), l0_flat]
  rfl
theorem p2_may : mayP ⟨2, [], none, 0⟩ := ⟨⟨by dsimp only; omega, by dsimp only; omega⟩, by show (0 : Nat) ≤ 256; omega, okFs.nil⟩
set_option maxRecDepth 100000 in
set_option maxHeartbeats 8000000 in
theorem awake_any (w : World) : Calls Try.prog 11 #[] w fun e w' => e = .returned (.bool true) ∧ Below w.heap.size w w' := by
  go_enter Try.func11, Try.ntmps11
  go_wp2_with (fail)
  refine (share_any 7 w).mono ?_
  rintro e w1 ⟨rfl, hb1⟩
  go_wp2_with (fail)
  refine (share_any 8 w1).mono ?_
  rintro e w2 ⟨rfl, hb2⟩
  go_wp2_with (fail)
  have r1 := two_rd w2 s7 s8
  have hbA : Below w2.heap.size w2 (w2.alloc (Obj.cells (twoC s7 s8) 36)) := bl_alloc (Below.refl _ _) _
  have hsA : (w2.alloc (Obj.cells (twoC s7 s8) 36)).heap.size = w2.heap.size + 1 := by simp
  unfold twoC s7 s8 at r1 hbA hsA
  dsimp only at r1 hbA hsA
  generalize (w2.alloc (Obj.cells #[Value.int .u64 7, Value.int .i64 5, Value.int .u32 1, Value.int .u64 7, Value.int .u64 8, Value.int .i64 5, Value.int .u32 1, Value.int .u64 8] 36)) = wA at *
  refine (share_any 8 wA).mono ?_
  rintro e w3 ⟨rfl, hb3⟩
  go_wp2_with (fail)
  refine (share_any 9 w3).mono ?_
  rintro e w4 ⟨rfl, hb4⟩
  have hs3 := hb3.size
  have hs4 := hb4.size
  go_wp2_with ((go_at_call 19; refine Hid.out ?_))
  refine Lib.hid ?_
  have r2 := two_rd w4 s8 s9
  have hbB : Below w4.heap.size w4 (w4.alloc (Obj.cells (twoC s8 s9) 36)) := bl_alloc (Below.refl _ _) _
  have hsB : (w4.alloc (Obj.cells (twoC s8 s9) 36)).heap.size = w4.heap.size + 1 := by simp
  unfold twoC s8 s9 at r2 hbB hsB
  dsimp only at r2 hbB hsB
  generalize (w4.alloc (Obj.cells #[Value.int .u64 8, Value.int .i64 5, Value.int .u32 1, Value.int .u64 8, Value.int .u64 9, Value.int .i64 5, Value.int .u32 1, Value.int .u64 9] 36)) = wB at *
  have hrow : (wB.alloc (Obj.cells #[Value.int .u64 1, Value.slice (some ⟨w2.heap.size, 0, none⟩) 2 2, Value.int .u64 2, Value.slice (some ⟨w4.heap.size, 0, none⟩) 2 2] 26)).heap[w4.heap.size + 1]? = some (Obj.cells #[Value.int .u64 1, Value.slice (some ⟨w2.heap.size, 0, none⟩) 2 2, Value.int .u64 2, Value.slice (some ⟨w4.heap.size, 0, none⟩) 2 2] 26) := by
    rw [← hsB]
    exact World.alloc_heap_new wB _
  have hbC : Below wB.heap.size wB (wB.alloc (Obj.cells #[Value.int .u64 1, Value.slice (some ⟨w2.heap.size, 0, none⟩) 2 2, Value.int .u64 2, Value.slice (some ⟨w4.heap.size, 0, none⟩) 2 2] 26)) := bl_alloc (Below.refl _ _) _
  have hsC : (wB.alloc (Obj.cells #[Value.int .u64 1, Value.slice (some ⟨w2.heap.size, 0, none⟩) 2 2, Value.int .u64 2, Value.slice (some ⟨w4.heap.size, 0, none⟩) 2 2] 26)).heap.size = wB.heap.size + 1 := by simp
  generalize (wB.alloc (Obj.cells #[Value.int .u64 1, Value.slice (some ⟨w2.heap.size, 0, none⟩) 2 2, Value.int .u64 2, Value.slice (some ⟨w4.heap.size, 0, none⟩) 2 2] 26)) = wC at *
  have hs1 := hb1.size
  have hs2 := hb2.size
  have HBC : Hid (Below w.heap.size w wC) := Lib.hid (bl_then (bl_then (bl_then (bl_then (bl_then (bl_then hb1 hb2) hbA) hb3) hb4) hbB) hbC)
  have q1 : RdS wC wC.heap.size (some ⟨w2.heap.size, 0, none⟩) [s7, s8] := by
    have h := r1.below (B := w2.heap.size + 1) ((((hb3.mono (by omega)).trans (hb4.mono (by omega))).trans (hbB.mono (by omega))).trans (hbC.mono (by omega)))
    exact h.more (by omega) (Nat.le_refl _)
  have q2 : RdS wC wC.heap.size (some ⟨w4.heap.size, 0, none⟩) [s8, s9] := by
    have h := r2.below (B := w4.heap.size + 1) (hbC.mono (by omega))
    exact h.more (by omega) (Nat.le_refl _)
  have hRP : RdP wC wC.heap.size (some ⟨w4.heap.size + 1, 0, none⟩) (l0 w2.heap.size w4.heap.size) := by
    refine ⟨fun _ => ⟨w4.heap.size + 1, 0, rfl, by omega, Nat.le_refl _, fun i hi => ?_⟩, fun p hp => ?_⟩
    · match i, hi with
      | 0, _ => simp [World.cell?, hrow, l0]
      | 1, _ => simp [World.cell?, hrow, l0]
    · have h : p = ⟨1, [s7, s8], some ⟨w2.heap.size, 0, none⟩, 2⟩ ∨ p = ⟨2, [s8, s9], some ⟨w4.heap.size, 0, none⟩, 2⟩ := by simpa [l0] using hp
      rcases h with rfl | rfl
      · exact ⟨q1, Nat.le_refl _⟩
      · exact ⟨q2, Nat.le_refl _⟩
  have HRP := Lib.hid hRP
  clear r1 r2 q1 q2 hrow hbA hbB hbC hb1 hb2 hb3 hb4 hRP
  generalize w2.heap.size = ba at *
  generalize w4.heap.size = bb at *
  have HCN := Lib.hid (counts_three (some ⟨bb + 1, 0, none⟩) 2 (l0 ba bb) wC HRP.out (by rw [l0_cnt]; intro x; simp; omega) (by rw [l0_cnt]; decide))
  rw [l0_cnt] at HCN
  refine HCN.out.mono ?_
  rintro e w5 ⟨v, z, rfl, hz, hown, hb5⟩
  obtain ⟨g, cap, rfl⟩ := ownsRow_succ hown
  have c8 : w5.cell? ⟨g, 2, none⟩ = some (.int .u64 8) := by
    have h := hown.cells (g := g) rfl 2 (.int .u64 (z 1)) rfl
    rw [hz.2.1] at h
    simpa [Addr.add] using h
  have c2 : w5.cell? ⟨g, 3, none⟩ = some (.int .i64 2) := by
    have h := hown.cells (g := g) rfl 3 (.int .i64 (([9, 8, 8, 7] : List Int).count (z 1) : Nat)) rfl
    rw [hz.2.1] at h
    simpa [Addr.add] using h
  have hgl := own_lt hown g rfl
  have hs5 := hb5.size
  have HB5 := Lib.hid (HBC.out.trans (hb5.mono (by omega)))
  have HRP5 := Lib.hid ((HRP.out.below hb5).more hs5 (Nat.le_refl _))
  clear hz hown hb5
  go_wp2_with ((go_at_call 20; refine Hid.out ?_))
  refine Lib.hid ?_
  have hrow : (w5.alloc (Obj.cells #[Value.int .u64 6, Value.int .u64 7, Value.int .u64 10] 23)).heap[w5.heap.size]? = some (Obj.cells #[Value.int .u64 6, Value.int .u64 7, Value.int .u64 10] 23) := World.alloc_heap_new w5 _
  have hbD : Below w5.heap.size w5 (w5.alloc (Obj.cells #[Value.int .u64 6, Value.int .u64 7, Value.int .u64 10] 23)) := bl_alloc (Below.refl _ _) _
  have hsD : (w5.alloc (Obj.cells #[Value.int .u64 6, Value.int .u64 7, Value.int .u64 10] 23)).heap.size = w5.heap.size + 1 := by simp
  generalize (w5.alloc (Obj.cells #[Value.int .u64 6, Value.int .u64 7, Value.int .u64 10] 23)) = wD at *
  have hRI : RdI wD wD.heap.size (some ⟨w5.heap.size, 0, none⟩) [6, 7, 10] := by
    refine ⟨fun _ => ⟨w5.heap.size, 0, rfl, by omega, Nat.le_refl _, fun i hi => ?_⟩, fun x hx => ?_⟩
    · match i, hi with
      | 0, _ => simp [World.cell?, hrow]
      | 1, _ => simp [World.cell?, hrow]
      | 2, _ => simp [World.cell?, hrow]
    · have h : x = 6 ∨ x = 7 ∨ x = 10 := by simpa using hx
      rcases h with rfl | rfl | rfl <;> decide
  have c8 := (hbD.cell (p := ⟨g, 2, none⟩) hgl).trans c8
  have c2 := (hbD.cell (p := ⟨g, 3, none⟩) hgl).trans c2
  have HRPD := Lib.hid ((HRP5.out.below hbD).more hbD.size (Nat.le_refl _))
  have HBD := Lib.hid (HB5.out.trans (hbD.mono (by have := HB5.out.size; omega)))
  have HLO := Lib.hid (loose_any (some ⟨bb + 1, 0, none⟩) 2 (l0 ba bb) (some ⟨w5.heap.size, 0, none⟩) 3 3 [6, 7, 10] wD HRPD.out hRI rfl (by omega))
  rw [l0_cnt] at HLO
  have hni : notIn [9, 8, 8, 7] [6, 7, 10] = [6, 10] := by decide
  rw [hni] at HLO
  have hglD : g < wD.heap.size := by omega
  clear hrow hRI hbD hni
  refine HLO.out.mono ?_
  rintro e w6 ⟨vo, rfl, hown6, hb6⟩
  obtain ⟨g6, cap6, rfl⟩ := ownsRow_succ (k := 1) hown6
  have d0 : w6.cell? ⟨g6, 0, none⟩ = some (.int .u64 6) := by
    have h := hown6.cells (g := g6) rfl 0 (.int .u64 6) rfl
    simpa [Addr.add] using h
  have d1 : w6.cell? ⟨g6, 1, none⟩ = some (.int .u64 10) := by
    have h := hown6.cells (g := g6) rfl 1 (.int .u64 10) rfl
    simpa [Addr.add] using h
  have hg6 := own_lt hown6 g6 rfl
  have c8 := (hb6.cell (p := ⟨g, 2, none⟩) hglD).trans c8
  have c2 := (hb6.cell (p := ⟨g, 3, none⟩) hglD).trans c2
  have hs6 := hb6.size
  have HB6 := Lib.hid (HBD.out.trans (hb6.mono (by have := HBD.out.size; omega)))
  have HRP6 := Lib.hid ((HRPD.out.below hb6).more hs6 (Nat.le_refl _))
  clear hown6 hb6
  go_wp2_with ((go_at_call 13; refine Hid.out ?_))
  refine Lib.hid ?_
  refine (add_arg (some ⟨bb + 1, 0, none⟩) 2 2 (l0 ba bb) ⟨2, [], none, 0⟩ w6 rfl HRP6.out (l0_right ba bb) p2_may (fun h => by simp at h) (by omega) (by show (2 : Int) ≤ 2; omega)).mono ?_
  rintro e w7 ⟨rfl, hb7⟩
  have d0 := (hb7.cell (p := ⟨g6, 0, none⟩) hg6).trans d0
  have d1 := (hb7.cell (p := ⟨g6, 1, none⟩) hg6).trans d1
  have hglw6 : g < w6.heap.size := by omega
  have c8 := (hb7.cell (p := ⟨g, 2, none⟩) hglw6).trans c8
  have c2 := (hb7.cell (p := ⟨g, 3, none⟩) hglw6).trans c2
  have hs7 := hb7.size
  have hglw7 : g < w7.heap.size := by omega
  have hg67 : g6 < w7.heap.size := by omega
  have HB7 := Lib.hid (HB6.out.trans (hb7.mono (by have := HB6.out.size; omega)))
  clear hb7
  go_wp2_with (fail)
  go_ret
  exact ⟨rfl, HB7.out⟩
end Go.Proofs.Ytmalcekbhnkfgaa
