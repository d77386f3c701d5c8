/- The contract of window.Merge, for lists of at most 1000000 windows. Conditions: as each theorem states them. -/
import Derived.Test.YtgpmceimhfkncaaB1
namespace Go.Proofs.Ytgpmceimhfkncaa
open Go.RowKit
set_option linter.unusedVariables false
set_option linter.unusedSimpArgs false

set_option maxHeartbeats 1000000 in
theorem merge_nil (A : Option Addr) (c : Nat) (x1 x2 : Int) (w : World) (hm : mayB (x1, x2) = true) :
    Calls Try.prog 18 #[.slice A 0 c, .agg #[.int .i64 x1, .int .i64 x2]] w fun e w' => ∃ vr, e = .returned (.tuple #[.agg #[.int .i64 x1, .int .i64 x2], .slice none 0 0, vr, .int .i64 0]) ∧
      w'.ownsRow w.heap.size 33 2 vr 1 (wcells [(x1, x2)]) ∧ Below w.heap.size w w' := by
  have HM := Lib.hid hm
  clear hm
  go_enter Try.func18, Try.ntmps18
  go_wp2_with (first | (go_at_call 20; refine (apart_nil _ _ _).mono ?_; rintro e w1 ⟨rfl, hb1⟩; have hx1 : w1.cell? ⟨w.heap.size, 0, none⟩ = some (.int .i64 x1) := (hb1.cell (p := ⟨w.heap.size, 0, none⟩) (by simp; omega)).trans (by go_simp); have hx2 : w1.cell? ⟨w.heap.size, 1, none⟩ = some (.int .i64 x2) := (hb1.cell (p := ⟨w.heap.size, 1, none⟩) (by simp; omega)).trans (by go_simp)) | fail)
  refine (may_any _ _ true HM.out _).mono ?_
  rintro e w2 ⟨rfl, hb2⟩
  have g0 : w.heap.size + 2 ≤ w1.heap.size := by have := hb1.size; simpa using this
  have ho1 : w1.cell? ⟨w.heap.size + 1, 0, none⟩ = some (.int .i64 0) := (hb1.cell (p := ⟨w.heap.size + 1, 0, none⟩) (by simp)).trans (by go_simp)
  have ho2 : w1.cell? ⟨w.heap.size + 1, 1, none⟩ = some (.int .i64 0) := (hb1.cell (p := ⟨w.heap.size + 1, 1, none⟩) (by simp)).trans (by go_simp)
  have hf1 : w1.frozen? ⟨w.heap.size + 1, 0, none⟩ = false := (hb1.frozen (p := ⟨w.heap.size + 1, 0, none⟩) (by simp)).trans (by go_simp)
  have hf2 : w1.frozen? ⟨w.heap.size + 1, 1, none⟩ = false := (hb1.frozen (p := ⟨w.heap.size + 1, 1, none⟩) (by simp)).trans (by go_simp)
  have hmi : MI w w2 (x1, x2) (0, 0) := ⟨(hb2.cell (p := ⟨w.heap.size, 0, none⟩) (by simp; omega)).trans hx1, (hb2.cell (p := ⟨w.heap.size, 1, none⟩) (by simp; omega)).trans hx2,
    (hb2.cell (p := ⟨w.heap.size + 1, 0, none⟩) (by simp; omega)).trans ho1, (hb2.cell (p := ⟨w.heap.size + 1, 1, none⟩) (by simp; omega)).trans ho2,
    (hb2.frozen (p := ⟨w.heap.size + 1, 0, none⟩) (by simp; omega)).trans hf1, (hb2.frozen (p := ⟨w.heap.size + 1, 1, none⟩) (by simp; omega)).trans hf2, bl_then (bl_then (bl_alloc (bl_alloc (Below.refl _ _) _) _) hb1) hb2, Nat.le_trans g0 hb2.size⟩
  clear hb1 hb2 hx1 hx2 ho1 ho2 hf1 hf2 g0
  have hmi2 := hmi.set x1 x2
  obtain ⟨x1', x2', o1, o2, f1, f2, bl, sz⟩ := id hmi
  dsimp only at x1' x2' o1 o2
  have HMI := Lib.hid hmi2
  clear hmi hmi2
  go_wp2_with (fail)
  refine absW (G := Code.wp _ _ _ _) (fun W => MI w W (x1, x2) (x1, x2)) HMI.out ?_
  intro w3 hm3
  obtain ⟨y1, y2, y3, y4, y5, y6, y7, y8⟩ := id hm3
  dsimp only at y1 y2 y3 y4
  clear x1' x2' o1 o2 f1 f2 bl sz HMI
  refine wp_loop_rounds 1 ?_
  rw [rounds_succ]
  go_wp2_with (fail)
  refine wp_loop_rounds 1 ?_
  rw [rounds_succ]
  go_wp2_with (at_builtin; refine wpList_append_w _ rfl _ _ rfl (w.heap.size + 2) _ _ _ rfl (World.ownsRow_nil _ _ _ _) w3.heap.size x1 x2 rfl (by go_simp) (by go_simp) (by omega) (by simp; omega) ?_)
  intro v' w4 hown hgrow
  have hb4 : Below (w.heap.size + 2) w3 w4 := ((Below.refl _ _).alloc y8 _).grown hgrow (by simp; omega) (fun g hg => by simp [Value.ownBlock] at hg)
  have hm4 := hm3.keep hb4
  obtain ⟨z1, z2, z3, z4, z5, z6, z7, z8⟩ := hm4
  dsimp only at z1 z2 z3 z4
  go_wp2
  refine bodyPost_ret (v := .tuple #[.agg #[.int .i64 x1, .int .i64 x2], .slice none 0 0, v', .int .i64 0]) (by simp only [results, Try.results18]; go_simp) rfl ?_
  exact ⟨v', rfl, own_weaken (ownsRow_setCell_below (ownsRow_setCell_below hown (by simp) _) (by simp) _) (by omega), (z7.setCell (p := ⟨w.heap.size + 1, 0, none⟩) (by simp) _).setCell (p := ⟨w.heap.size + 1, 1, none⟩) (by simp) _⟩

set_option maxHeartbeats 1000000 in
theorem merge_no (A : Option Addr) (c : Nat) (l : List (Int × Int)) (x1 x2 : Int) (w : World) (hr : RdW w w.heap.size A l) (hc : l.length ≤ c) (h : apartFrom l 0 = false ∨ (apartFrom l 0 = true ∧ mayB (x1, x2) = false)) :
    Calls Try.prog 18 #[.slice A l.length c, .agg #[.int .i64 x1, .int .i64 x2]] w fun e w' => e = .returned (.tuple #[.agg #[.int .i64 0, .int .i64 0], .slice none 0 0, .slice none 0 0, .int .i64 2]) ∧ Below w.heap.size w w' := by
  have HR := Lib.hid hr
  clear hr
  rcases h with h | ⟨h, h2⟩
  · have HAP := Lib.hid h
    clear h
    go_enter Try.func18, Try.ntmps18
    go_wp2_with (fail)
    refine (apart_any _ _ l _ ?_ hc false HAP.out).mono ?_
    · exact (HR.out.below (bl_alloc (bl_alloc (Below.refl _ _) _) _)).more (by simp; omega)
    rintro e w1 ⟨rfl, hb1⟩
    have ho1 : w1.cell? ⟨w.heap.size + 1, 0, none⟩ = some (.int .i64 0) := (hb1.cell (p := ⟨w.heap.size + 1, 0, none⟩) (by simp)).trans (by go_simp)
    have ho2 : w1.cell? ⟨w.heap.size + 1, 1, none⟩ = some (.int .i64 0) := (hb1.cell (p := ⟨w.heap.size + 1, 1, none⟩) (by simp)).trans (by go_simp)
    have hf1 : w1.frozen? ⟨w.heap.size + 1, 0, none⟩ = false := (hb1.frozen (p := ⟨w.heap.size + 1, 0, none⟩) (by simp)).trans (by go_simp)
    have hf2 : w1.frozen? ⟨w.heap.size + 1, 1, none⟩ = false := (hb1.frozen (p := ⟨w.heap.size + 1, 1, none⟩) (by simp)).trans (by go_simp)
    have hbw := bl_then (bl_alloc (bl_alloc (Below.refl _ _) _) _) hb1
    clear hb1
    go_wp2
    refine bodyPost_ret (v := .tuple #[.agg #[.int .i64 0, .int .i64 0], .slice none 0 0, .slice none 0 0, .int .i64 2]) (by simp only [results, Try.results18]; go_simp) rfl ?_
    exact ⟨rfl, (hbw.setCell (p := ⟨w.heap.size + 1, 0, none⟩) (by simp) _).setCell (p := ⟨w.heap.size + 1, 1, none⟩) (by simp) _⟩
  · have HAP := Lib.hid h
    have HM := Lib.hid h2
    clear h h2
    go_enter Try.func18, Try.ntmps18
    go_wp2_with (fail)
    refine (apart_any _ _ l _ ?_ hc true HAP.out).mono ?_
    · exact (HR.out.below (bl_alloc (bl_alloc (Below.refl _ _) _) _)).more (by simp; omega)
    rintro e w1 ⟨rfl, hb1⟩
    have hx1 : w1.cell? ⟨w.heap.size, 0, none⟩ = some (.int .i64 x1) := (hb1.cell (p := ⟨w.heap.size, 0, none⟩) (by simp; omega)).trans (by go_simp)
    have hx2 : w1.cell? ⟨w.heap.size, 1, none⟩ = some (.int .i64 x2) := (hb1.cell (p := ⟨w.heap.size, 1, none⟩) (by simp; omega)).trans (by go_simp)
    have ho1 : w1.cell? ⟨w.heap.size + 1, 0, none⟩ = some (.int .i64 0) := (hb1.cell (p := ⟨w.heap.size + 1, 0, none⟩) (by simp)).trans (by go_simp)
    have ho2 : w1.cell? ⟨w.heap.size + 1, 1, none⟩ = some (.int .i64 0) := (hb1.cell (p := ⟨w.heap.size + 1, 1, none⟩) (by simp)).trans (by go_simp)
    have hf1 : w1.frozen? ⟨w.heap.size + 1, 0, none⟩ = false := (hb1.frozen (p := ⟨w.heap.size + 1, 0, none⟩) (by simp)).trans (by go_simp)
    have hf2 : w1.frozen? ⟨w.heap.size + 1, 1, none⟩ = false := (hb1.frozen (p := ⟨w.heap.size + 1, 1, none⟩) (by simp)).trans (by go_simp)
    have hbw := bl_then (bl_alloc (bl_alloc (Below.refl _ _) _) _) hb1
    have hsz1 : w.heap.size + 2 ≤ w1.heap.size := by have := hb1.size; simpa using this
    clear hb1
    go_wp2_with (fail)
    refine (may_any _ _ false HM.out _).mono ?_
    rintro e w2 ⟨rfl, hb2⟩
    have ho1 := (hb2.cell (p := ⟨w.heap.size + 1, 0, none⟩) (by simp; omega)).trans ho1
    have ho2 := (hb2.cell (p := ⟨w.heap.size + 1, 1, none⟩) (by simp; omega)).trans ho2
    have hf1 := (hb2.frozen (p := ⟨w.heap.size + 1, 0, none⟩) (by simp; omega)).trans hf1
    have hf2 := (hb2.frozen (p := ⟨w.heap.size + 1, 1, none⟩) (by simp; omega)).trans hf2
    have hbw := bl_then hbw hb2
    clear hb2 hsz1
    go_wp2
    refine bodyPost_ret (v := .tuple #[.agg #[.int .i64 0, .int .i64 0], .slice none 0 0, .slice none 0 0, .int .i64 2]) (by simp only [results, Try.results18]; go_simp) rfl ?_
    exact ⟨rfl, (hbw.setCell (p := ⟨w.heap.size + 1, 0, none⟩) (by simp) _).setCell (p := ⟨w.heap.size + 1, 1, none⟩) (by simp) _⟩

/-- What Merge answers. -/
def mergeV (l : List (Int × Int)) (x : Int × Int) : (Int × Int) × List (Int × Int) × List (Int × Int) × Int :=
  if apartFrom l 0 && mayB x then (oneF x l, goneF x l, restL (oneF x l) l, 0) else ((0, 0), [], [], 2)
theorem merge_any (A : Option Addr) (c : Nat) (l : List (Int × Int)) (x1 x2 : Int) (w : World) (hr : RdW w w.heap.size A l) (hc : l.length ≤ c) (hn : l.length ≤ 1000000)
    (o : Int × Int) (G R : List (Int × Int)) (er : Int) (hq : mergeV l (x1, x2) = (o, G, R, er)) :
    Calls Try.prog 18 #[.slice A l.length c, .agg #[.int .i64 x1, .int .i64 x2]] w fun e w' => ∃ vg vr, e = .returned (.tuple #[.agg #[.int .i64 o.1, .int .i64 o.2], vg, vr, .int .i64 er]) ∧
      w'.ownsRow w.heap.size 33 2 vg G.length (wcells G) ∧ w'.ownsRow w.heap.size 33 2 vr R.length (wcells R) ∧ Below w.heap.size w w' := by
  unfold mergeV at hq
  cases ha : apartFrom l 0
  · rw [ha] at hq
    simp only [Bool.false_and, Bool.false_eq_true, if_false, Prod.mk.injEq] at hq
    obtain ⟨rfl, rfl, rfl, rfl⟩ := hq
    exact (merge_no A c l x1 x2 w hr hc (.inl ha)).mono fun e w' ⟨he, hb⟩ => ⟨_, _, he, World.ownsRow_nil _ _ _ _, World.ownsRow_nil _ _ _ _, hb⟩
  cases hm : mayB (x1, x2)
  · rw [ha, hm] at hq
    simp only [Bool.and_false, Bool.false_eq_true, if_false, Prod.mk.injEq] at hq
    obtain ⟨rfl, rfl, rfl, rfl⟩ := hq
    exact (merge_no A c l x1 x2 w hr hc (.inr ⟨ha, hm⟩)).mono fun e w' ⟨he, hb⟩ => ⟨_, _, he, World.ownsRow_nil _ _ _ _, World.ownsRow_nil _ _ _ _, hb⟩
  rw [ha, hm] at hq
  simp only [Bool.and_self, if_true, Prod.mk.injEq] at hq
  obtain ⟨rfl, rfl, rfl, rfl⟩ := hq
  rcases hr.cases with rfl | ⟨b, off, rfl, hb, hpos, hcell⟩
  · refine (merge_nil A c x1 x2 w hm).mono fun e w' ⟨vr, he, ho, hb⟩ => ⟨_, vr, he, World.ownsRow_nil _ _ _ _, ?_, hb⟩
    exact ho
  · exact merge_yes b off c l x1 x2 w hr hb hc hn ha hm hcell
end Go.Proofs.Ytgpmceimhfkncaa
