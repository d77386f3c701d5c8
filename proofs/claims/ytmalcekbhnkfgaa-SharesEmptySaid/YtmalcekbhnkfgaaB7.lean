/- Contracts of share, of Add where the point may not come, of great. Conditions: as each theorem states them. -/
import Derived.Test.YtmalcekbhnkfgaaB6
import Derived.Test.YtmalcekbhnkfgaaA7
namespace Go.Proofs.Ytmalcekbhnkfgaa
open Go.RowKit Go.Maps Go.Shelf
set_option linter.unusedVariables false
set_option linter.unusedSimpArgs false

set_option maxHeartbeats 1000000 in
theorem share_any (n : Int) (w : World) : Calls Try.prog 28 #[.int .u64 n] w fun e w' => e = .returned (.agg #[.int .u64 n, .int .i64 5, .int .u32 1, .int .u64 n]) ∧ Below w.heap.size w w' := by
  go_enter Try.func28, Try.ntmps28
  go_wp2_with (fail)
  refine bodyPost_ret (v := .agg #[.int .u64 n, .int .i64 5, .int .u32 1, .int .u64 n]) (by simp only [results, Try.results28]; go_simp) rfl ?_
  exact ⟨rfl, by first | exact bl_alloc (Below.refl _ _) _ | exact (bl_alloc (Below.refl _ _) _).drew⟩
set_option maxRecDepth 100000 in
set_option maxHeartbeats 4000000 in
theorem add_arg (A : Option Addr) (n c : Nat) (l : List Pt) (p : Pt) (w : World) (hl : l.length = n) (hA : RdP w w.heap.size A l) (hr : RightP l) (hp : mayP p) (hpr : RdS w w.heap.size p.A p.fs) (hn : 0 < n) (hlast : p.id ≤ (l.getD (n - 1) zeroP).id) :
    Calls Try.prog 13 #[.slice A n c, ptV p] w fun e w' => e = .returned (.tuple #[.slice none 0 0, .int .i64 2]) ∧ Below w.heap.size w w' := by
  obtain ⟨b, off, rfl, hb, _, hc⟩ := hA.1 (by omega)
  have hlc := (hc (n - 1) (by omega)).1
  obtain ⟨v, hv⟩ : ∃ v, (l.getD (n - 1) zeroP).id = v := ⟨_, rfl⟩
  rw [hv] at hlc hlast
  have hrt := rightB_t hr
  have hmt := mayB_t hp
  have hn16 : n ≤ 16 := by have := hr.1; omega
  have hR := fun (X : World) (h : Below w.heap.size w X) => right_any (some ⟨b, off, none⟩) c l X ((hA.below h).more h.size (Nat.le_refl _))
  rw [hl, hrt] at hR
  have hM := fun (X : World) (h : Below w.heap.size w X) => may_any p X ((hpr.below h).more h.size (Nat.le_refl _))
  rw [hmt] at hM
  have HR := Lib.hid hR
  have HM := Lib.hid hM
  have HLC := Lib.hid hlc
  have hn0 : (0 : Int) < (n : Int) := by omega
  have hj0 : (0 : Int) ≤ (n : Int) - 1 := by omega
  have hj1 : (n : Int) - 1 < (n : Int) := by omega
  have hjn : ((n : Int) - 1).toNat = n - 1 := by omega
  clear hR hM hlc hc hA hpr hr hp hrt hmt hv hl
  obtain ⟨pid, pfs, pA, pc⟩ := p
  unfold ptV at *
  dsimp only at *
  refine (callsIn_wide (n := 10)).1 ?_
  refine callsIn_of_wp_marks Try.func13 rfl trivial ?_ rfl
  refine wpIn_wide.2 ?_
  simp only [Try.ntmps13, List.size_toArray, List.length_cons, List.length_nil, Nat.reduceAdd, Nat.reduceSub, Array.replicate_succ, Array.replicate_zero, List.push_toArray, List.append_toArray, List.nil_append, List.cons_append]
  go_wp2_with (fail)
  obtain ⟨WA, hWA⟩ : ∃ WA, WA = ((w.alloc (Obj.cells #[.int .u64 pid, .slice pA pfs.length pc] 26)).alloc (Obj.cells #[.slice none 0 0] 22)).alloc (Obj.cells #[.int .i64 0] 30) := ⟨_, rfl⟩
  have x0 : WA.cell? ⟨w.heap.size, 0, none⟩ = some (.int .u64 pid) := by rw [hWA]; go_keep
  have x1 : WA.cell? ⟨w.heap.size, 1, none⟩ = some (.slice pA pfs.length pc) := by rw [hWA]; go_keep
  have b4 : Boxed WA (w.heap.size + 1) 22 (.slice none 0 0) := by
    rw [hWA]
    simpa using (Boxed.new (w.alloc (Obj.cells #[.int .u64 pid, .slice pA pfs.length pc] 26)) 22 (.slice none 0 0)).alloc (Obj.cells #[.int .i64 0] 30)
  have b5 : Boxed WA (w.heap.size + 1 + 1) 30 (.int .i64 0) := by
    rw [hWA]
    simpa using Boxed.new ((w.alloc (Obj.cells #[.int .u64 pid, .slice pA pfs.length pc] 26)).alloc (Obj.cells #[.slice none 0 0] 22)) 30 (.int .i64 0)
  have hbA : Below w.heap.size w WA := by rw [hWA]; exact bl_alloc (bl_alloc (bl_alloc (Below.refl _ _) _) _) _
  have hsA : WA.heap.size = w.heap.size + 3 := by rw [hWA]; simp
  rw [← hWA]
  clear hWA
  have hlc := (hbA.cell (p := ⟨b, off + (n - 1) * 2, none⟩) hb).trans HLC.out
  have HX : Hid (∀ X : Ext WA, Calls Try.prog 16 #[.slice (some ⟨b, off, none⟩) n c] X.val fun e w' => e = .returned (.bool true) ∧ Below X.val.heap.size X.val w') := Lib.hid fun X => HR.out X.val (hbA.trans (X.bl.mono (by omega)))
  have HY : Hid (∀ X : Ext WA, Calls Try.prog 29 #[.agg #[.int .u64 pid, .slice pA pfs.length pc]] X.val fun e w' => e = .returned (.bool true) ∧ Below X.val.heap.size X.val w') := Lib.hid fun X => HM.out X.val (hbA.trans (X.bl.mono (by omega)))
  have H0 : Hid (decide ((0 : Int) < (n : Int)) = true) := dec_t hn0
  have H0n : Hid (decide (0 < n) = true) := dec_t (by omega)
  have H1 : Hid (decide (pid ≤ v) = true) := dec_t hlast
  have e0 := ext_cell x0
  have e1 := ext_cell x1
  have e2 := ext_cell hlc
  have B4 := Lib.hid b4
  have B5 := Lib.hid b5
  have HBA := Lib.hid hbA
  clear b4 b5 hbA
  refine wp_region_ext (by kernel_rfl) (by kernel_rfl) ?_
  repeat (first | rw [H0.out] | rw [H0n.out] | rw [H1.out] | go_big_quiet_step (first | (go_at_call 16; exact ext_calls (HX.out _)) | (go_at_call 29; exact ext_calls (HY.out _))))
  refine wpQuiet_nil ?_
  rintro w2 ⟨⟨_, hb2⟩, rfl⟩
  have hs2 := hb2.size
  have b4 : Boxed w2 (w.heap.size + 1) 22 (.slice none 0 0) := (hb2.block _ (by omega)).trans B4.out
  have b5 : Boxed w2 (w.heap.size + 1 + 1) 30 (.int .i64 0) := (hb2.block _ (by omega)).trans B5.out
  have c4 := b4.cell
  have f4 := b4.frozen
  have c5 := b5.cell
  have f5 := b5.frozen
  have HB2 := Lib.hid (HBA.out.trans (hb2.mono (by omega)))
  clear hb2 e0 e1 e2
  go_wp2_with (fail)
  have q4 := (b4.set (.slice none 0 0)).other (B' := w.heap.size + 1 + 1) (by omega) (.int .i64 2)
  have q5 : Boxed ((w2.setCell ⟨w.heap.size + 1, 0, none⟩ (.slice none 0 0)).setCell ⟨w.heap.size + 1 + 1, 0, none⟩ (.int .i64 2)) (w.heap.size + 1 + 1) 30 (.int .i64 2) := Boxed.set _ (b5.other (B' := w.heap.size + 1) (by omega) (.slice none 0 0))
  have k4 := q4.cell
  have k5 := q5.cell
  refine ⟨.tuple #[.slice none 0 0, .int .i64 2], by simp [results, Try.f13, go_sem, k4, k5], rfl, (HB2.out.setCell (p := ⟨w.heap.size + 1, 0, none⟩) (by dsimp only; omega) _).setCell (p := ⟨w.heap.size + 1 + 1, 0, none⟩) (by dsimp only; omega) _⟩
end Go.Proofs.Ytmalcekbhnkfgaa
