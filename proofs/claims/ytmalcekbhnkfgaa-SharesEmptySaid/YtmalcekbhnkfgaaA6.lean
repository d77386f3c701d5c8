/- Contract of shares.counted. Conditions: as each theorem states them. -/
import Derived.Test.YtmalcekbhnkfgaaA5
namespace Go.Proofs.Ytmalcekbhnkfgaa
open Go.RowKit Go.Maps Go.Shelf
set_option linter.unusedVariables false
set_option linter.unusedSimpArgs false
attribute [local go_sem] Oper.semAt_some

theorem right_any (A : Option Addr) (c : Nat) (l : List Pt) (w : World) (hA : RdP w w.heap.size A l) :
    Calls Try.prog 16 #[.slice A l.length c] w fun e w' => e = .returned (.bool (rightB l)) ∧ Below w.heap.size w w' := by
  by_cases hn : l.length ≤ 16
  · exact right_few A l.length c l w rfl hn hA
  · exact right_many A l.length c l w rfl (by omega)
theorem CntAt.grown {w w' : World} {row : Option Nat} {b : Nat} {L : List Int} (h : CntAt w b L) (g : w.grownBy w' row) (hb : some b ≠ row) : CntAt w' b L := by
  obtain ⟨D, ho, h1⟩ := h
  have hlt := ho.lt
  obtain ⟨es, clock, hb', F, hs, hD⟩ := ho
  exact ⟨D, ⟨es, clock, (g.block b hlt hb).trans hb', F, hs, hD⟩, h1⟩
/-- The numbers that are counted, the last one first. -/
def nums (l : List (Nat × Sh)) : List Int := (l.map (fun x => x.2.nm)).reverse
theorem nums_snoc (l : List (Nat × Sh)) (x : Nat × Sh) : nums (l ++ [x]) = x.2.nm :: nums l := by simp [nums]
theorem nums_length (l : List (Nat × Sh)) : (nums l).length = l.length := by simp [nums]
set_option maxRecDepth 100000 in
set_option maxHeartbeats 4000000 in
theorem counted_right (A : Option Addr) (n c : Nat) (l : List Pt) (w : World) (hl : l.length = n) (hA : RdP w w.heap.size A l) (hr : RightP l) :
    Calls Try.prog 36 #[.slice A n c] w fun e w' => e = .returned (.map (some w.heap.size)) ∧ CntAt w' w.heap.size (nums (flat 0 l)) ∧ Below w.heap.size w w' := by
  have hfs : ∀ p ∈ l, p.fs.length ≤ 256 := fun p hp => (hr.2.1 p hp).2.1
  have hn16 : n ≤ 16 := by have := hr.1; omega
  have hflat : (flat 0 l).length ≤ 4096 := by have := flat_length_le 0 l hfs; omega
  have hrt := rightB_t hr
  have hR := fun (w' : World) (h : Below w.heap.size w w') => right_any A c l w' ((hA.below h).more h.size (Nat.le_refl _))
  rw [hl, hrt] at hR
  have HR := Lib.hid hR
  have HA := Lib.hid hA
  have HFS := Lib.hid hfs
  have HLN := Lib.hid hl
  have HFL := Lib.hid hflat
  clear hfs hflat hrt hR hA hr hl
  have hmm := @run_makeMap Try.prog
  refine (callsIn_wide (n := 10)).1 ?_
  refine callsIn_of_wp_marks Try.func36 rfl trivial ?_ rfl
  refine wpIn_wide.2 ?_
  simp only [Try.ntmps36, List.size_toArray, List.length_cons, List.length_nil, Nat.reduceAdd, Nat.reduceSub, Array.replicate_succ, Array.replicate_zero, List.push_toArray, List.append_toArray, List.nil_append, List.cons_append]
  go_wp2_with (fail)
  have hb1 : Below w.heap.size w ((w.alloc (Obj.map #[] 0)).alloc (Obj.cells #[Value.map (some w.heap.size)] 62)) := bl_alloc (bl_alloc (Below.refl _ _) _) _
  have c1 : CntAt ((w.alloc (Obj.map #[] 0)).alloc (Obj.cells #[Value.map (some w.heap.size)] 62)) w.heap.size [] := (CntAt.made w).grown (World.grownBy_alloc _ _ none) (by simp)
  have bM : Boxed ((w.alloc (Obj.map #[] 0)).alloc (Obj.cells #[Value.map (some w.heap.size)] 62)) (w.heap.size + 1) 62 (.map (some w.heap.size)) := by
    have h := Boxed.new (w.alloc (Obj.map #[] 0)) 62 (.map (some w.heap.size))
    simpa using h
  have hs1 : w.heap.size + 2 = ((w.alloc (Obj.map #[] 0)).alloc (Obj.cells #[Value.map (some w.heap.size)] 62)).heap.size := by simp
  generalize ((w.alloc (Obj.map #[] 0)).alloc (Obj.cells #[Value.map (some w.heap.size)] 62)) = w1 at *
  refine (HR.out _ hb1).mono ?_
  rintro e w2 ⟨rfl, hb2⟩
  have hs2 := hb2.size
  have c2 := c1.below hb2 (by omega)
  have bM2 : Boxed w2 (w.heap.size + 1) 62 (.map (some w.heap.size)) := (hb2.block _ (by omega)).trans bM
  have HB2 := Lib.hid (bl_then hb1 hb2)
  have HC2 := Lib.hid c2
  have HM2 := Lib.hid bM2
  clear hb1 c1 bM hb2 c2 bM2
  go_wp2_with (go_at_call 30; refine (callsIn_wide.1 (files_in Fence.wide 5 trivial rfl _ _ _ _)).mono ?_; rintro e w' ⟨rfl, rfl⟩)
  have hfsl := HFS.out
  have hflat := HFL.out
  have hlen := HLN.out
  have bS := Boxed.new w2 22 (.slice A n c)
  have hbW : Below w2.heap.size w2 (w2.alloc (Obj.cells #[Value.slice A n c] 22)) := bl_alloc (Below.refl _ _) _
  have hBL : Below w.heap.size w (w2.alloc (Obj.cells #[Value.slice A n c] 22)) := HB2.out.trans (hbW.mono (by omega))
  have cL : CntAt (w2.alloc (Obj.cells #[Value.slice A n c] 22)) w.heap.size [] := HC2.out.below hbW (by omega)
  have bML : Boxed (w2.alloc (Obj.cells #[Value.slice A n c] 22)) (w.heap.size + 1) 62 (.map (some w.heap.size)) := (hbW.block _ (by omega)).trans HM2.out
  have hsz : (w2.alloc (Obj.cells #[Value.slice A n c] 22)).heap.size = w2.heap.size + 1 := by simp
  generalize (w2.alloc (Obj.cells #[Value.slice A n c] 22)) = WL at *
  have hPL : RdP WL w.heap.size A l := HA.out.below hBL
  refine (wpIn_wide (n := 10)).1 ?_
  refine wpIn_rangeFunc_ownH rfl (by omega) (gf := 44) (lb := #[.pointer (some ⟨w2.heap.size, 0, none⟩)]) rfl trivial (enters_of Try.func44 (by kernel_rfl) rfl)
    (files_stops Fence.wide (10 - 1) trivial rfl (by omega) w2.heap.size w.heap.size A c l (by omega) (fun p hp => by have := hfsl p hp; omega) WL (by omega) (by omega) (by rw [hlen]; exact bS.cell) hPL) belowK_t (belowK_b (by omega)) (Below.refl _ _) (fun _ => rfl)
    (fun pre W => (CntAt W w.heap.size (nums pre) ∧ Boxed W (w.heap.size + 1) 62 (.map (some w.heap.size))) ∧ Below w.heap.size w W)
    (fun _ _ _ => False)
    (OwnFrom.and (OwnFrom.and (fun s X Y row hs hg hr => hs.grown hg (fun e => by have := (hr _ e.symm).1; omega)) (Own.from (boxed_own _ _ _) _)) (ownFrom_below (Nat.le_refl _) (by omega)))
    (fun _ _ _ _ _ hs _ _ => hs)
    ⟨⟨cL, bML⟩, hBL⟩
    (fun x a' W => ∃ Bx, w.heap.size + 1 < Bx ∧ BoxS W Bx x.2 ∧ a' = { tmps := #[.slice A n c, undef, .map none, .pointer (some ⟨w.heap.size + 1, 0, none⟩), undef, .pointer (some ⟨Bx, 0, none⟩), .map (some w.heap.size), .slice A n c, .bool true, .slice A n c, .func (.func 44) #[] #[.pointer (some ⟨w2.heap.size, 0, none⟩)], .int .i64 (x.1 : Int), shV x.2, undef, undef, undef, undef, undef, undef], defers := [] })
    (fun x a' _ X Y row hs hg hr => by obtain ⟨Bx, e1, e2, e3⟩ := hs; exact ⟨Bx, e1, e2.own hg (fun r e => (hr r e).2), e3⟩)
    ?assign ?body ?done ?stop
  case assign =>
    rintro lp pre x W K ⟨⟨h2, h3⟩, h5⟩ hK
    simp only [encN, shV]
    gi_wp2
    exact hK _ _ ((KeepsOthers.alloc _ _).from _) ((Below.refl _ W).alloc h5.size _) ⟨⟨h2.grown (World.grownBy_alloc _ _ none) (by simp), h3.alloc _⟩, h5.alloc h5.size _⟩ ⟨W.heap.size, h3.lt, BoxS.new W x.2, rfl⟩
  case body =>
    rintro lp pre x a' W hlp ⟨r, hr⟩ ⟨⟨h2, h3⟩, h5⟩ ⟨Bx, hBx, hxb, rfl⟩ hpl
    have cM := h3.cell
    obtain ⟨y0, y1, y2, y3⟩ := hxb.cells
    have hsW := h5.size
    have hlm := h3.lt
    have hlX := hxb.lt
    have hns := nums_snoc pre x
    obtain ⟨xi, f⟩ := x
    dsimp only at *
    have hlk := h2.look f.wn
    obtain ⟨w3, hst, hc3, hg3⟩ := h2.bump f.wn (by rw [nums_length]; omega)
    have hq := List.count_le_length (a := f.nm) (l := nums pre)
    rw [nums_length] at hq
    generalize (nums pre).count f.nm = q at *
    have hq0 : (0 : Int) ≤ (q : Int) := by omega
    have hq1 : (q : Int) ≤ 4096 := by omega
    have H3 := Lib.hid h3
    have H5 := Lib.hid h5
    have HC3 := Lib.hid hc3
    have HG3 := Lib.hid hg3
    have HNS := Lib.hid hns
    clear h2 h3 h5 hc3 hg3 hns hxb hr hq
    gi_wp2
    exact ⟨KeepsFrom.of_grownBy HG3.out (fun j e => by cases e; omega), (Below.refl _ W).grown HG3.out hsW (fun k e => by cases e; exact Nat.le_refl _),
      ⟨⟨by rw [HNS.out]; exact HC3.out, H3.out.kept HG3.out (by simp)⟩, H5.out.grown HG3.out hsW (fun k e => by cases e; exact Nat.le_refl _)⟩⟩
  case done =>
    rintro D ys W hD rfl ⟨⟨h2, h3⟩, h5⟩ hK
    have cM := h3.cell
    have H2 := Lib.hid h2
    have H5 := Lib.hid h5
    have HK := Lib.hid hK
    clear h2 h3 h5 hK
    go_wp2_with (fail)
    refine ⟨by simp, .inl ⟨_, _, rfl, run_takeDeferred HK.out, ?_⟩⟩
    exact ⟨.map (some w.heap.size), by simp [results, Try.f36, go_sem], rfl, H2.out.grown (grownBy_putObj' _ D _) (fun e => by cases e; omega), H5.out.trans (belowK_b (w := WL) (by omega) W D _ _ hD HK.out rfl rfl)⟩
  case stop =>
    rintro D cd pre W _ _ h _
    exact h.elim
set_option maxRecDepth 100000 in
set_option maxHeartbeats 2000000 in
theorem counted_wrong (A : Option Addr) (n c : Nat) (l : List Pt) (w : World) (hl : l.length = n) (hA : RdP w w.heap.size A l) (hr : ¬ RightP l) :
    Calls Try.prog 36 #[.slice A n c] w fun e w' => e = .returned (.map (some w.heap.size)) ∧ CntAt w' w.heap.size [] ∧ Below w.heap.size w w' := by
  have hrt := rightB_f hr
  have hR := fun (w' : World) (h : Below w.heap.size w w') => right_any A c l w' ((hA.below h).more h.size (Nat.le_refl _))
  rw [hl, hrt] at hR
  have HR := Lib.hid hR
  clear hrt hR hA hr hl
  have hmm := @run_makeMap Try.prog
  refine (callsIn_wide (n := 10)).1 ?_
  refine callsIn_of_wp_marks Try.func36 rfl trivial ?_ rfl
  refine wpIn_wide.2 ?_
  simp only [Try.ntmps36, List.size_toArray, List.length_cons, List.length_nil, Nat.reduceAdd, Nat.reduceSub, Array.replicate_succ, Array.replicate_zero, List.push_toArray, List.append_toArray, List.nil_append, List.cons_append]
  go_wp2_with (fail)
  have hb1 : Below w.heap.size w ((w.alloc (Obj.map #[] 0)).alloc (Obj.cells #[Value.map (some w.heap.size)] 62)) := bl_alloc (bl_alloc (Below.refl _ _) _) _
  have c1 : CntAt ((w.alloc (Obj.map #[] 0)).alloc (Obj.cells #[Value.map (some w.heap.size)] 62)) w.heap.size [] := (CntAt.made w).grown (World.grownBy_alloc _ _ none) (by simp)
  have bM : Boxed ((w.alloc (Obj.map #[] 0)).alloc (Obj.cells #[Value.map (some w.heap.size)] 62)) (w.heap.size + 1) 62 (.map (some w.heap.size)) := by
    have h := Boxed.new (w.alloc (Obj.map #[] 0)) 62 (.map (some w.heap.size))
    simpa using h
  have hs1 : w.heap.size + 2 = ((w.alloc (Obj.map #[] 0)).alloc (Obj.cells #[Value.map (some w.heap.size)] 62)).heap.size := by simp
  generalize ((w.alloc (Obj.map #[] 0)).alloc (Obj.cells #[Value.map (some w.heap.size)] 62)) = w1 at *
  refine (HR.out _ hb1).mono ?_
  rintro e w2 ⟨rfl, hb2⟩
  have hs2 := hb2.size
  have c2 := c1.below hb2 (by omega)
  have bM2 : Boxed w2 (w.heap.size + 1) 62 (.map (some w.heap.size)) := (hb2.block _ (by omega)).trans bM
  have HB2 := Lib.hid (bl_then hb1 hb2)
  have HC2 := Lib.hid c2
  have cM := bM2.cell
  clear hb1 c1 bM hb2 c2 bM2
  go_wp2_with (fail)
  exact ⟨.map (some w.heap.size), by simp [results, Try.f36, go_sem], rfl, HC2.out, HB2.out⟩
open Classical in
/-- What is counted. -/
noncomputable def cntL (l : List Pt) : List Int := if RightP l then nums (flat 0 l) else []
theorem counted_any (A : Option Addr) (c : Nat) (l : List Pt) (w : World) (hA : RdP w w.heap.size A l) :
    Calls Try.prog 36 #[.slice A l.length c] w fun e w' => e = .returned (.map (some w.heap.size)) ∧ CntAt w' w.heap.size (cntL l) ∧ Below w.heap.size w w' := by
  unfold cntL
  split
  · rename_i h
    exact counted_right A l.length c l w rfl hA h
  · rename_i h
    exact counted_wrong A l.length c l w rfl hA h
end Go.Proofs.Ytmalcekbhnkfgaa
