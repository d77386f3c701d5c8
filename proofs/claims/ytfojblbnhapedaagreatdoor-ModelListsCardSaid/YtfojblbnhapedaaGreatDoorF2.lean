/- Contract of model.New. Conditions: as each theorem states them. -/
import Derived.Test.YtfojblbnhapedaaGreatDoorE2
namespace Go.Proofs.YtfojblbnhapedaaGreatDoor
open Go.RowKit Go.Maps
set_option linter.unusedVariables false
set_option linter.unusedSimpArgs false

/-- An open window: its place, its row, its values. -/
structure Pn where
  p : Pl
  r : Rw
  vs : List Int
def icells (l : List Int) : List Value := l.map (.int .i64)
def RowAt (w : World) (r : Rw) (l : List Int) : Prop := w.ownsRow 0 2 1 (rwV r) r.n (icells l) ∧ r.n = l.length ∧ 0 < r.n
structure Md where
  j : Jb
  mks : Mk
  L : List Pn
  dr : Int
/-- Where a model stands. -/
structure Lo where
  bm : Nat
  bk : Nat
  bo : Nat
def mdcells (B : Lo) (M : Md) : Array Value := #[.int .i64 M.j.groups, .int .i64 M.j.sources, .int .i64 M.j.bound, .int .i64 M.j.late, .slice M.j.A M.j.ops.length M.j.c, ptrV B.bk, .map (some B.bo), .int .i64 M.dr]
structure MdAt (w : World) (B : Lo) (M : Md) : Prop where
  md : w.heap[B.bm]? = some (Obj.cells (mdcells B M) 87)
  mks : MkAt w B.bk M.mks
  map : MapAt w B.bo (M.L.map fun x => (x.p, x.r))
  ops : RdP w M.j.A M.j.ops
  rows : ∀ x ∈ M.L, RowAt w x.r x.vs
  opa : ∀ a, M.j.A = some a → a.block < w.heap.size ∧ a.block ≠ B.bm ∧ a.block ≠ B.bk ∧ a.block ≠ B.bo
/-- What holds of every model. -/
structure OkMd (M : Md) : Prop where
  mks : OkM M.mks
  job : jobP M.j
  cl : M.j.ops.length ≤ M.j.c
  cb : M.j.c ≤ 9223372036854775807
  late : 0 ≤ M.j.late ∧ M.j.late ≤ 1099511627776
theorem MdAt.lt {w : World} {B : Lo} {M : Md} (h : MdAt w B M) : B.bm < w.heap.size := (Array.getElem?_eq_some_iff.1 h.md).1
theorem MdAt.below {w w' : World} {B : Lo} {M : Md} (h : MdAt w B M) (k : Below w.heap.size w w') : MdAt w' B M := by
  refine ⟨(k.block _ h.lt).trans h.md, h.mks.below k, h.map.kw (S := fun _ => False) (Kw.ofBelow k) (fun h => h), h.ops.below k, fun x hx => ?_, fun a ha => ?_⟩
  · obtain ⟨h1, h2⟩ := h.rows x hx
    refine ⟨⟨h1.1, ?_⟩, h2⟩
    rcases h1.2 with ⟨e, _⟩ | ⟨g, c, cur, e, hb, hg, hr⟩
    · cases e
    · exact .inr ⟨g, c, cur, e, hb, (k.block g (Array.getElem?_eq_some_iff.1 hg).1).trans hg, hr⟩
  · have := h.opa a ha
    exact ⟨Nat.lt_of_lt_of_le this.1 k.size, this.2⟩
theorem MdAt.c {w : World} {B : Lo} {M : Md} (h : MdAt w B M) (i : Nat) : w.cell? ⟨B.bm, i, none⟩ = (mdcells B M)[i]? := cell_of h.md i
theorem MdAt.fz {w : World} {B : Lo} {M : Md} (h : MdAt w B M) (i : Nat) : w.frozen? ⟨B.bm, i, none⟩ = false := froz_of h.md i
set_option maxRecDepth 100000 in
set_option maxHeartbeats 4000000 in
theorem due_any (f t x : Int) (w : World) (ht : -1000000000000000000 ≤ t ∧ t ≤ 1000000000000000000) : Calls Tryz.prog 62 #[.agg #[.int .i64 f, .int .i64 t], .int .i64 x] w fun e w' => e = .returned (.bool (decide (t - 1 ≤ x))) ∧ Below w.heap.size w w' := by
  have hb := Lib.hid (bl_alloc (Below.refl w.heap.size w) (Obj.cells #[.int .i64 f, .int .i64 t] 54))
  have e1 : IntKind.i64.wrap (t - 1) = t - 1 := by rw [IntKind.wrap_i64]; omega
  go_enter Tryz.func62, Tryz.ntmps62
  go_wp2_with (fail)
  go_ret
  exact ⟨rfl, hb.out⟩
set_option maxRecDepth 100000 in
set_option maxHeartbeats 4000000 in
theorem count_md (B : Lo) (M : Md) (w : World) (h : MdAt w B M) : Calls Tryz.prog 29 #[ptrV B.bm] w fun e w' => e = .returned (.int .i64 M.L.length) ∧ w = w' := by
  have c6 := h.c 6
  have hl := h.lt
  have hlen := h.map.len 3
  rw [List.length_map] at hlen
  simp only [mdcells, List.getElem?_toArray, List.getElem?_cons_zero, List.getElem?_cons_succ] at c6
  unfold ptrV
  clear h
  go_enter Tryz.func29, Tryz.ntmps29
  go_wp2_with (fail)
  go_ret
  exact ⟨rfl, rfl⟩
set_option maxRecDepth 100000 in
set_option maxHeartbeats 4000000 in
theorem now_md (B : Lo) (M : Md) (w : World) (h : MdAt w B M) (ok : OkM M.mks) : Calls Tryz.prog 23 #[ptrV B.bm] w fun e w' => e = .returned (.int .i64 M.mks.now) ∧ w = w' := by
  have c5 := h.c 5
  have hl := h.lt
  have HN := Lib.hid (mnow_any B.bk M.mks w h.mks ok)
  simp only [mdcells, List.getElem?_toArray, List.getElem?_cons_zero, List.getElem?_cons_succ] at c5
  unfold ptrV at *
  clear h ok
  go_enter Tryz.func23, Tryz.ntmps23
  go_wp2_with (fail)
  refine HN.out.mono ?_
  rintro e w' ⟨rfl, rfl⟩
  go_wp2_with (fail)
  go_ret
  exact ⟨rfl, rfl⟩
set_option maxRecDepth 100000 in
set_option maxHeartbeats 4000000 in
theorem dropped_md (B : Lo) (M : Md) (w : World) (h : MdAt w B M) : Calls Tryz.prog 28 #[ptrV B.bm] w fun e w' => e = .returned (.int .i64 M.dr) ∧ w = w' := by
  have c7 := h.c 7
  have hl := h.lt
  simp only [mdcells, List.getElem?_toArray, List.getElem?_cons_zero, List.getElem?_cons_succ] at c7
  unfold ptrV at *
  clear h
  go_enter Tryz.func28, Tryz.ntmps28
  go_wp2_with (fail)
  go_ret
  exact ⟨rfl, rfl⟩
end Go.Proofs.YtfojblbnhapedaaGreatDoor
namespace Go.Proofs.YtfojblbnhapedaaGreatDoor
open Go.RowKit Go.Maps
set_option linter.unusedVariables false
set_option linter.unusedSimpArgs false

set_option maxRecDepth 100000 in
set_option maxHeartbeats 4000000 in
theorem gone_any (B : Lo) (M : Md) (f t x : Int) (w : World) (h : MdAt w B M) (hla : 0 ≤ M.j.late ∧ M.j.late ≤ 1099511627776) (ht : -1000000000000000000 ≤ t ∧ t ≤ 1000000000000000000) :
    Calls Tryz.prog 72 #[ptrV B.bm, .agg #[.int .i64 f, .int .i64 t], .int .i64 x] w fun e w' => e = .returned (.bool (decide (t - 1 + M.j.late ≤ x))) ∧ Below w.heap.size w w' := by
  have hb := bl_alloc (Below.refl w.heap.size w) (Obj.cells #[.int .i64 f, .int .i64 t] 54)
  have HB := Lib.hid hb
  have hm := h.below hb
  have c3 := hm.c 3
  have hl := hm.lt
  simp only [mdcells, List.getElem?_toArray, List.getElem?_cons_zero, List.getElem?_cons_succ] at c3
  have hn := heap_alloc_new w (Obj.cells #[.int .i64 f, .int .i64 t] 54)
  have x1 := cell_of hn 1
  simp only [List.getElem?_toArray, List.getElem?_cons_zero, List.getElem?_cons_succ] at x1
  have xl := (Array.getElem?_eq_some_iff.1 hn).1
  have e1 : IntKind.i64.wrap (t - 1) = t - 1 := by rw [IntKind.wrap_i64]; omega
  have e2 : IntKind.i64.wrap (t - 1 + M.j.late) = t - 1 + M.j.late := by rw [IntKind.wrap_i64]; omega
  have y1 := ext_cell x1
  have y3 := ext_cell c3
  unfold ptrV
  clear h hm hb hn x1 c3
  go_enter Tryz.func72, Tryz.ntmps72
  go_wp2_with (fail)
  refine wp_region_ext (by kernel_rfl) (by kernel_rfl) ?_
  repeat (go_big_quiet_step (fail))
  refine wpQuiet_nil ?_
  rintro w8 ⟨⟨w9, hb9⟩, rfl⟩
  have HB9 := Lib.hid (bl_then HB.out hb9)
  clear hb9 y1 y3
  go_wp2_with (fail)
  go_ret
  exact ⟨rfl, HB9.out⟩
/-- The document's example. -/
def hits : ByteArray := ⟨#[104, 105, 116, 115]⟩
def jS (b : Nat) : Jb := ⟨1, 1, 0, 5, [⟨hits, 1, 1, 10, 0⟩], some ⟨b, 0, none⟩, 1⟩
set_option maxRecDepth 100000 in
set_option maxHeartbeats 4000000 in
theorem sample_any (w : World) : Calls Tryz.prog 32 #[] w fun e w' => e = .returned (jbV (jS (w.heap.size + 1))) ∧ Below w.heap.size w w' ∧ RdP w' (jS (w.heap.size + 1)).A (jS (w.heap.size + 1)).ops := by
  go_enter Tryz.func32, Tryz.ntmps32
  go_wp2_with (fail)
  refine bodyPost_ret (v := jbV (jS (w.heap.size + 1))) (by simp [results, Tryz.results32, jbV, jS, go_sem]) rfl ⟨rfl, ?_, ?_⟩
  · exact bl_alloc (bl_alloc (Below.refl _ _) _) _
  · refine ⟨fun _ => ⟨w.heap.size + 1, 0, rfl, by simp, fun i hi => ?_⟩, fun o ho => ?_⟩
    · obtain rfl : i = 0 := by
        have : (jS (w.heap.size + 1)).ops.length = 1 := rfl
        omega
      have hn := heap_alloc_new (w.alloc (Obj.cells #[.int .i64 1, .int .i64 1, .int .i64 0, .int .i64 5, .slice (some ⟨w.heap.size + 1, 0, none⟩) 1 1] 24)) (Obj.cells #[.string ⟨#[104, 105, 116, 115]⟩, .int .i64 1, .int .i64 1, .int .i64 10, .int .i64 0] 48)
      rw [show (w.alloc (Obj.cells #[.int .i64 1, .int .i64 1, .int .i64 0, .int .i64 5, .slice (some ⟨w.heap.size + 1, 0, none⟩) 1 1] 24)).heap.size = w.heap.size + 1 from by simp] at hn
      exact ⟨cell_of hn 0, cell_of hn 1, cell_of hn 2, cell_of hn 3, cell_of hn 4⟩
    · rw [List.mem_singleton.1 ho]
      unfold okN
      decide +kernel
end Go.Proofs.YtfojblbnhapedaaGreatDoor
namespace Go.Proofs.YtfojblbnhapedaaGreatDoor
open Go.RowKit Go.Maps
set_option linter.unusedVariables false
set_option linter.unusedSimpArgs false

set_option maxRecDepth 100000 in
set_option maxHeartbeats 4000000 in
theorem new_no (j : Jb) (w : World) (hA : RdP w j.A j.ops) (hc : j.ops.length ≤ j.c) (hcb : j.c ≤ 9223372036854775807) (hj : ¬ jobP j) : Calls Tryz.prog 14 #[jbV j] w fun e w' => e = .returned (.tuple #[.pointer none, .int .i64 2]) ∧ Below w.heap.size w w' := by
  have hb := bl_alloc (Below.refl w.heap.size w) (Obj.cells #[.int .i64 j.groups, .int .i64 j.sources, .int .i64 j.bound, .int .i64 j.late, .slice j.A j.ops.length j.c] 24)
  have HB := Lib.hid hb
  have HC := Lib.hid (jcheck_any j _ (hA.below hb) hc hcb)
  rw [if_neg hj] at HC
  unfold jbV at *
  clear hA hb hj
  go_enter Tryz.func14, Tryz.ntmps14
  go_wp2_with (fail)
  refine HC.out.mono ?_
  rintro e w' ⟨rfl, hb⟩
  have HB2 := Lib.hid (bl_then HB.out hb)
  clear hb
  go_wp2_with (fail)
  go_ret2
  exact ⟨rfl, HB2.out⟩
/-- A new model. -/
def Md.new (j : Jb) : Md := ⟨j, Mk.new j.sources.toNat j.bound, [], 0⟩
set_option maxRecDepth 100000 in
set_option maxHeartbeats 8000000 in
theorem new_yes (j : Jb) (w : World) (hA : RdP w j.A j.ops) (hc : j.ops.length ≤ j.c) (hcb : j.c ≤ 9223372036854775807) (hj : jobP j) : Calls Tryz.prog 14 #[jbV j] w fun e w' => ∃ B A' c', e = .returned (.tuple #[ptrV B.bm, .int .i64 0]) ∧ Below w.heap.size w w' ∧ w.heap.size ≤ B.bm ∧ w.heap.size ≤ B.bk ∧ w.heap.size ≤ B.bo ∧ (∀ a, A' = some a → w.heap.size ≤ a.block) ∧ (j.ops.length ≤ c' ∧ c' ≤ 9223372036854775807) ∧ MdAt w' B (Md.new { j with A := A', c := c' }) := by
  have hb := bl_alloc (Below.refl w.heap.size w) (Obj.cells #[.int .i64 j.groups, .int .i64 j.sources, .int .i64 j.bound, .int .i64 j.late, .slice j.A j.ops.length j.c] 24)
  have HB := Lib.hid hb
  have HRD := Lib.hid hA
  have HC := Lib.hid (jcheck_any j _ (hA.below hb) hc hcb)
  have hn := heap_alloc_new w (Obj.cells #[.int .i64 j.groups, .int .i64 j.sources, .int .i64 j.bound, .int .i64 j.late, .slice j.A j.ops.length j.c] 24)
  have HN := Lib.hid hn
  rw [if_pos hj] at HC
  have HJ := Lib.hid hj
  obtain ⟨g, hg⟩ : ∃ g : Nat, j.sources = (g : Int) := ⟨j.sources.toNat, by have := hj.1.2.2.1; omega⟩
  have HG := Lib.hid hg
  obtain ⟨gr, so, bo, la, l, A, c⟩ := j
  unfold jbV at *
  dsimp only at *
  subst hg
  have hcb0 : c ≤ 9223372036854775807 := hcb
  clear hA hb hj hn
  go_enter Tryz.func14, Tryz.ntmps14
  go_wp2_with (fail)
  refine HC.out.mono ?_
  rintro e w1 ⟨rfl, hb1⟩
  have HB1 := Lib.hid (bl_then HB.out hb1)
  have hn1 := (hb1.block _ (by simp)).trans HN.out
  have HN1 := Lib.hid hn1
  have x4 := cell_of hn1 4
  have xl := (Array.getElem?_eq_some_iff.1 hn1).1
  have f4 := froz_of hn1 4
  simp only [List.getElem?_toArray, List.getElem?_cons_zero, List.getElem?_cons_succ] at x4
  have HCL := Lib.hid (clone_any A c l w1 (HRD.out.below HB1.out) (by have := HJ.out.1.2.2.2.2.2.2.2.2; dsimp only at this; omega))
  clear hb1 hn1
  go_wp2_with (fail)
  refine HCL.out.mono ?_
  rintro e w2 ⟨A2, c2, rfl, hc2, hr2, ha2, hb2⟩
  have hn2 := (hb2.block _ xl).trans HN1.out
  have xl2 := (Array.getElem?_eq_some_iff.1 hn2).1
  have fz2 := froz_of hn2 4
  have y4 := cell_of hn2 4
  have y1 := cell_of hn2 1
  have y2 := cell_of hn2 2
  simp only [List.getElem?_toArray, List.getElem?_cons_zero, List.getElem?_cons_succ] at y1 y2 y4
  have HN3 := Lib.hid hn2
  have hn3 := set_heap (i := 4) (v := .slice A2 l.length c2) hn2
  simp only [List.setIfInBounds_toArray, List.set_cons_zero, List.set_cons_succ] at hn3
  have hb3 : Below w.heap.size w (w2.setCell ⟨w.heap.size, 4, none⟩ (.slice A2 l.length c2)) := (bl_then HB1.out hb2).setCell (Nat.le_refl _) _
  have HB3 := Lib.hid hb3
  have hz3 : (w2.setCell ⟨w.heap.size, 4, none⟩ (.slice A2 l.length c2)).heap.size = w2.heap.size := by simp [World.setCell]
  have HR3 : Hid (RdP (w2.setCell ⟨w.heap.size, 4, none⟩ (.slice A2 l.length c2)) A2 l) := Lib.hid (by
    refine ⟨fun hl => ?_, hr2.2⟩
    obtain ⟨b, o, e, hb, hc⟩ := hr2.1 hl
    have hne : b ≠ w.heap.size := by
      have := (ha2 _ e).1
      dsimp only at this
      omega
    have hk : ∀ i, (w2.setCell ⟨w.heap.size, 4, none⟩ (.slice A2 l.length c2)).cell? ⟨b, i, none⟩ = w2.cell? ⟨b, i, none⟩ := fun i => World.cell?_setCell_other w2 _ _ _ (fun e => hne (by have := congrArg Addr.block e; simpa using this.symm))
    refine ⟨b, o, e, by rw [hz3]; exact hb, fun i hi => ?_⟩
    obtain ⟨u0, u1, u2, u3, u4⟩ := hc i hi
    exact ⟨(hk _).trans u0, (hk _).trans u1, (hk _).trans u2, (hk _).trans u3, (hk _).trans u4⟩)
  have HA3 : Hid (∀ a, A2 = some a → w1.heap.size ≤ a.block ∧ a.block < (w2.setCell ⟨w.heap.size, 4, none⟩ (.slice A2 l.length c2)).heap.size) := Lib.hid (fun a ha => by rw [hz3]; exact ha2 a ha)
  have HMK := Lib.hid (mknew_yes g bo (w2.setCell ⟨w.heap.size, 4, none⟩ (.slice A2 l.length c2)) ⟨by have := HJ.out.1.2.2.1; dsimp only at this; omega, by have := HJ.out.1.2.2.2.1; dsimp only at this; omega, by have := HJ.out.1.2.2.2.2.1; dsimp only at this; omega, by have := HJ.out.1.2.2.2.2.2.1; dsimp only at this; omega⟩)
  have HXL := Lib.hid xl
  have HN3 := Lib.hid hn3
  clear hn3
  clear hb2 hn2 hb3 hr2 ha2 x4 f4 xl hz3
  go_wp2_with (fail)
  generalize w2.setCell ⟨w.heap.size, 4, none⟩ (.slice A2 l.length c2) = w3 at *
  refine HMK.out.mono ?_
  rintro e w4 ⟨rfl, hb4, hm4⟩
  have x3 : w.heap.size < w3.heap.size := Nat.lt_of_lt_of_le (Nat.lt_of_le_of_lt (Nat.le_refl _) (Array.getElem?_eq_some_iff.1 HN3.out).1) (Nat.le_refl _)
  have hn4 := (hb4.block _ x3).trans HN3.out
  have z0 := cell_of hn4 0
  have z1 := cell_of hn4 1
  have z2 := cell_of hn4 2
  have z3 := cell_of hn4 3
  have z4 := cell_of hn4 4
  have zl := (Array.getElem?_eq_some_iff.1 hn4).1
  simp only [List.getElem?_toArray, List.getElem?_cons_zero, List.getElem?_cons_succ] at z0 z1 z2 z3 z4
  have hmm := @run_makeMap Tryz.prog
  have HM4 := Lib.hid hm4
  have HB4 := Lib.hid hb4
  clear hb4 hm4 hn4 y1 y2 y4 fz2 HC HN HCL HMK
  unfold ptrV
  go_wp2_with (fail)
  go_ret2
  have hbw := bl_then HB3.out HB4.out
  have b1 := bl_alloc (Below.refl w4.heap.size w4) (Obj.map #[] 0)
  have b2 := bl_alloc b1 (Obj.cells #[.int .i64 gr, .int .i64 g, .int .i64 bo, .int .i64 la, .slice A2 l.length c2, .pointer (some ⟨w3.heap.size, 0, none⟩), .map (some w4.heap.size), .int .i64 0] 87)
  have hs4 : w3.heap.size ≤ w4.heap.size := HB4.out.size
  have hsx : w.heap.size ≤ w3.heap.size := HB3.out.size
  have hs5 : (w4.alloc (Obj.map #[] 0)).heap.size = w4.heap.size + 1 := by simp
  have hn := heap_alloc_new (w4.alloc (Obj.map #[] 0)) (Obj.cells #[.int .i64 gr, .int .i64 g, .int .i64 bo, .int .i64 la, .slice A2 l.length c2, .pointer (some ⟨w3.heap.size, 0, none⟩), .map (some w4.heap.size), .int .i64 0] 87)
  rw [hs5] at hn
  refine ⟨⟨w4.heap.size + 1, w3.heap.size, w4.heap.size⟩, A2, c2, rfl, bl_then hbw b2, by dsimp only; omega, hsx, by dsimp only; omega, fun a ha => by have := (HA3.out a ha).1; have := HXL.out; omega, hc2, ?_⟩
  refine ⟨hn, HM4.out.below b2, ?_, (HR3.out.below HB4.out).below b2, ?_, ?_⟩
  · exact (MapAt.made w4).kw (S := fun _ => False) (Kw.ofBelow (bl_alloc (Below.refl _ _) _)) (fun h => h)
  · intro x hx
    cases hx
  · intro a ha
    have h := HA3.out a ha
    have h2 := b2.size
    dsimp only
    refine ⟨by omega, by omega, by omega, by omega⟩
end Go.Proofs.YtfojblbnhapedaaGreatDoor
