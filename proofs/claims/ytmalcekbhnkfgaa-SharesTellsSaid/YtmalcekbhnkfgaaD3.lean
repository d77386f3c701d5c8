/- Contract of shares.Add. Conditions: as each theorem states them. -/
import Derived.Test.YtmalcekbhnkfgaaD2
namespace Go.Proofs.Ytmalcekbhnkfgaa
open Go.RowKit Go.Maps Go.Shelf
set_option linter.unusedVariables false
set_option linter.unusedSimpArgs false
attribute [local go_sem] Oper.semAt_some

/-- A point in a block of its own. -/
def BoxP (W : World) (B : Nat) (p : Pt) : Prop := W.heap[B]? = some (Obj.cells #[.int .u64 p.id, .slice p.A p.fs.length p.c] 26)
theorem BoxP.lt {W : World} {B : Nat} {f : Pt} (h : BoxP W B f) : B < W.heap.size := (Array.getElem?_eq_some_iff.1 h).1
theorem BoxP.new (W : World) (p : Pt) : BoxP (W.alloc (Obj.cells #[.int .u64 p.id, .slice p.A p.fs.length p.c] 26)) W.heap.size p := World.alloc_heap_new W _
theorem BoxP.grown {W W' : World} {row : Option Nat} {B : Nat} {f : Pt} (h : BoxP W B f) (hg : W.grownBy W' row) (hne : some B ≠ row) : BoxP W' B f := (hg.block B h.lt hne).trans h
theorem BoxP.own {W W' : World} {row : Option Nat} {B : Nat} {f : Pt} (h : BoxP W B f) (hg : W.grownBy W' row) (hr : ∀ r, row = some r → ∃ o : Obj, W.heap[r]? = some o ∧ o.isCells = false) : BoxP W' B f :=
  h.grown hg (fun e => by
    obtain ⟨o, ho, hc⟩ := hr B e.symm
    rw [show W.heap[B]? = _ from h] at ho
    cases ho
    cases hc)
theorem BoxP.cells {W : World} {B : Nat} {p : Pt} (h : BoxP W B p) : W.cell? ⟨B, 0, none⟩ = some (.int .u64 p.id) ∧ W.cell? ⟨B, 1, none⟩ = some (.slice p.A p.fs.length p.c) := by
  have h' : W.heap[B]? = _ := h
  simp [World.cell?, h']
theorem BoxP.kw {W W' : World} {B B' : Nat} {f : Pt} (h : BoxP W B f) (k : Below B' W W') (hb : B < B') : BoxP W' B f := (k.block B hb).trans h
theorem BoxP.other {W : World} {B B' : Nat} {f : Pt} (h : BoxP W B f) (hne : B ≠ B') (i : Nat) (u : Value) : BoxP (W.setCell ⟨B', i, none⟩ u) B f := (Below.heap_setCell _ _ _ _ hne).trans h
theorem keepsFrom_below {B : Nat} {W W' : World} (h : Below W.heap.size W W') : KeepsFrom B W W' :=
  ⟨h.size, fun k o _ hk _ => (h.block k (Array.getElem?_eq_some_iff.1 hk).1).trans hk⟩
theorem OwnP.kw {w w' : World} {S : Nat → Prop} {B : Nat} {A : Option Addr} {l : List Pt} (h : OwnP w B A l) (k : Kw S w w') (hS : ∀ b, B ≤ b → ¬ S b) : OwnP w' B A l := fun hl => by
  obtain ⟨g, e, hB, hr, hf⟩ := h hl
  refine ⟨g, e, hB, hr.kw k (hS g hB), fun p hp => (hf p hp).kw k (fun a ha => hS _ ?_)⟩
  refine own_ge (hf p hp).1 a.block ?_
  rw [ha]
  rfl
theorem OwnP.le {w : World} {B B' : Nat} {A : Option Addr} {l : List Pt} (h : OwnP w B A l) (hB : B' ≤ B) : OwnP w B' A l := fun hl => by
  obtain ⟨g, e, hg, hr, hf⟩ := h hl
  exact ⟨g, e, Nat.le_trans hB hg, hr, fun p hp => ⟨own_le (hf p hp).1 hB, (hf p hp).2⟩⟩
theorem two_new (w : World) (a b : Value) (t : TypeId) : (w.alloc (Obj.cells #[a, b] t)).cell? ⟨w.heap.size, 0, none⟩ = some a ∧ (w.alloc (Obj.cells #[a, b] t)).cell? (Addr.add ⟨w.heap.size, 0, none⟩ 1) = some b := by
  have h : (w.alloc (Obj.cells #[a, b] t)).heap[w.heap.size]? = some (Obj.cells #[a, b] t) := World.alloc_heap_new w _
  generalize (w.alloc (Obj.cells #[a, b] t)) = W at *
  simp [World.cell?, h, Addr.add]
theorem setc_ne (w : World) (B B' i j : Nat) (v : Value) (h : B' ≠ B) : (w.setCell ⟨B', j, none⟩ v).cell? ⟨B, i, none⟩ = w.cell? ⟨B, i, none⟩ := by
  have hne : (⟨B', j, none⟩ : Addr) ≠ ⟨B, i, none⟩ := by simp [h]
  exact World.cell?_setCell_other w _ _ _ hne
theorem size_new (w : World) (o : Obj) : w.heap.size < (w.alloc o).heap.size := by simp
/-- A row of one's own reads as points, where the files can be read. -/
theorem own_rp {w : World} {B n : Nat} {v : Value} {l : List Pt} (h : w.ownsRow B 26 2 v n (pcells l)) (hl : l.length = n) (hf : ∀ p ∈ l, RdS w w.heap.size p.A p.fs ∧ p.fs.length ≤ p.c) : ∃ A c, v = .slice A n c ∧ RdP w w.heap.size A l ∧ n ≤ c := by
  rcases own_form h with ⟨rfl, h0⟩ | ⟨g, c, rfl, hc, hB, hg⟩
  · exact ⟨none, 0, by rw [h0], ⟨fun hl0 => by omega, hf⟩, by omega⟩
  · have hr := RowP.of_own h hl hg
    refine ⟨_, c, rfl, ⟨fun _ => ⟨g, 0, rfl, hg, Nat.le_refl _, fun i hi => ?_⟩, hf⟩, hc⟩
    rw [Nat.zero_add]
    exact ⟨(hr.2 i (by omega)).1, (hr.2 i (by omega)).2.1⟩
theorem step_append_p {ops : Array Oper} {o : Oper} {a : Act} {K : Act → World → Prop} {Q : Exit → Act → World → Prop} {E : Prop} (w : World) (hgd : o.guard = none) (s x : Operand)
    (ho : o.op = .call { callee := .builtin .append, args := #[s, x], argTypes := #[22, 22] }) (base n : Nat) (v : Value) (xs : List Pt) (hs : a.eval s = v) (hown : w.ownsRow base 26 2 v n (pcells xs))
    (ad : Addr) (c : Nat) (p : Pt) (hx : a.eval x = .slice (some ad) 1 c) (hr : w.cell? ad = some (.int .u64 p.id) ∧ w.cell? (ad.add 1) = some (.slice p.A p.fs.length p.c)) (hn : n + 1 ≤ 1000001) (hbase : base ≤ w.heap.size)
    (h : ∀ v' w', w'.ownsRow base 26 2 v' (n + 1) (pcells (xs ++ [p])) → w.grownBy w' v.ownBlock → K (a.put o.dst v') w') :
    if Region.wanted o (yielded ops a.tmps) = true then Oper.wp Try.prog o a w K Q else E := by
  have hw : Region.wanted o (yielded ops a.tmps) = true := by simp [Region.wanted, hgd]
  rw [if_pos hw]
  obtain ⟨i0, hi, hz0, hz1, hz2⟩ := info_parts i26
  refine wp_append_own w s x 22 ho base 26 i0 (.agg #[.int .u64 0, .slice none 0 0]) 2 32 und22' hi hz0 hz1 hz2 rfl (by decide) v n (pcells xs) hs hown ad 1 c (pcells [p]) hx rfl ?_ (pcells_one _) (by unfold maxLen; omega) (by omega) hbase (fun v' w' h1 h2 _ => h v' w' (by rw [pcells_append]; exact h1) h2)
  intro j u hu
  match j with
  | 0 =>
    have hu : some (Value.int .u64 p.id) = some u := hu
    rw [← hu]
    simpa [Addr.add] using hr.1
  | 1 =>
    have hu : some (Value.slice p.A p.fs.length p.c) = some u := hu
    rw [← hu]
    exact hr.2
  | j + 2 => exact absurd hu (by simp [pcells])
/-- Has a file of the list the number of one of the point's, and is not the same? -/
def clashL (L fs : List Sh) : Prop := ∃ f ∈ L, ∃ g ∈ fs, f.nm = g.nm ∧ f ≠ g
open Classical in
/-- What is answered to a point that may come by itself. -/
noncomputable def addG (l : List Pt) (p : Pt) : Int := if clashL (allF l) p.fs then 5 else if l.length = 16 then 3 else 0
set_option maxRecDepth 100000 in
set_option maxHeartbeats 4000000 in
theorem add_wrong (A : Option Addr) (n c : Nat) (l : List Pt) (p : Pt) (w : World) (hl : l.length = n) (hA : RdP w w.heap.size A l) (hr : ¬ RightP l) :
    Calls Try.prog 13 #[.slice A n c, ptV p] w fun e w' => e = .returned (.tuple #[.slice none 0 0, .int .i64 2]) ∧ Below w.heap.size w w' := by
  have hrt := rightB_f hr
  have hR := fun (X : World) (h : Below w.heap.size w X) => right_any A c l X ((hA.below h).more h.size (Nat.le_refl _))
  rw [hl, hrt] at hR
  have HR := Lib.hid hR
  clear hR hA hr hrt hl
  obtain ⟨pid, pfs, pA, pc⟩ := p
  unfold ptV at *
  dsimp only at *
  refine (callsIn_wide (n := 10)).1 ?_
  refine callsIn_of_wp_marks Try.func13 rfl trivial ?_ rfl
  refine wpIn_wide.2 ?_
  simp only [Try.ntmps13, List.size_toArray, List.length_cons, List.length_nil, Nat.reduceAdd, Nat.reduceSub, Array.replicate_succ, Array.replicate_zero, List.push_toArray, List.append_toArray, List.nil_append, List.cons_append]
  go_wp2_with (fail)
  obtain ⟨WA, hWA⟩ : ∃ WA, WA = ((w.alloc (Obj.cells #[.int .u64 pid, .slice pA pfs.length pc] 26)).alloc (Obj.cells #[.slice none 0 0] 22)).alloc (Obj.cells #[.int .i64 0] 30) := ⟨_, rfl⟩
  have bP : BoxP WA w.heap.size ⟨pid, pfs, pA, pc⟩ := by
    rw [hWA]
    exact ((BoxP.new w ⟨pid, pfs, pA, pc⟩).grown (World.grownBy_alloc _ (Obj.cells #[.slice none 0 0] 22) none) (by simp)).grown (World.grownBy_alloc _ (Obj.cells #[.int .i64 0] 30) none) (by simp)
  obtain ⟨x0, x1⟩ := bP.cells
  dsimp only at x0 x1
  have b4 : Boxed WA (w.heap.size + 1) 22 (.slice none 0 0) := by
    rw [hWA]
    simpa using (Boxed.new (w.alloc (Obj.cells #[.int .u64 pid, .slice pA pfs.length pc] 26)) 22 (.slice none 0 0)).alloc (Obj.cells #[.int .i64 0] 30)
  have b5 : Boxed WA (w.heap.size + 1 + 1) 30 (.int .i64 0) := by
    rw [hWA]
    simpa using Boxed.new ((w.alloc (Obj.cells #[.int .u64 pid, .slice pA pfs.length pc] 26)).alloc (Obj.cells #[.slice none 0 0] 22)) 30 (.int .i64 0)
  have hbA : Below w.heap.size w WA := by rw [hWA]; exact bl_alloc (bl_alloc (bl_alloc (Below.refl _ _) _) _) _
  have hsA : WA.heap.size = w.heap.size + 3 := by rw [hWA]; simp
  rw [← hWA]
  clear hWA
  have HX : Hid (∀ X : Ext WA, Calls Try.prog 16 #[.slice A n c] X.val fun e w' => e = .returned (.bool false) ∧ Below X.val.heap.size X.val w') := Lib.hid fun X => HR.out X.val (hbA.trans (X.bl.mono (by omega)))
  have e0 := ext_cell x0
  have e1 := ext_cell x1
  have B4 := Lib.hid b4
  have B5 := Lib.hid b5
  have HBA := Lib.hid hbA
  clear b4 b5 hbA
  refine wp_region_ext (by kernel_rfl) (by kernel_rfl) ?_
  repeat (go_big_quiet_step ((go_at_call 16; exact ext_calls (HX.out _))))
  refine wpQuiet_nil ?_
  rintro w2 ⟨⟨_, hb2⟩, rfl⟩
  have hs2 := hb2.size
  have b4 : Boxed w2 (w.heap.size + 1) 22 (.slice none 0 0) := (hb2.block _ (by omega)).trans B4.out
  have b5 : Boxed w2 (w.heap.size + 1 + 1) 30 (.int .i64 0) := (hb2.block _ (by omega)).trans B5.out
  have c4 := b4.cell
  have f4 := b4.frozen
  have c5 := b5.cell
  have f5 := b5.frozen
  have HB2 := Lib.hid (HBA.out.trans (hb2.mono (by omega)))
  clear hb2 e0 e1
  go_wp2_with (fail)
  have q4 := (b4.set (.slice none 0 0)).other (B' := w.heap.size + 1 + 1) (by omega) (.int .i64 2)
  have q5 : Boxed ((w2.setCell ⟨w.heap.size + 1, 0, none⟩ (.slice none 0 0)).setCell ⟨w.heap.size + 1 + 1, 0, none⟩ (.int .i64 2)) (w.heap.size + 1 + 1) 30 (.int .i64 2) := Boxed.set _ (b5.other (B' := w.heap.size + 1) (by omega) (.slice none 0 0))
  have k4 := q4.cell
  have k5 := q5.cell
  refine ⟨.tuple #[.slice none 0 0, .int .i64 2], by simp [results, Try.f13, go_sem, k4, k5], rfl, (HB2.out.setCell (p := ⟨w.heap.size + 1, 0, none⟩) (by dsimp only; omega) _).setCell (p := ⟨w.heap.size + 1 + 1, 0, none⟩) (by dsimp only; omega) _⟩
set_option maxRecDepth 100000 in
set_option maxHeartbeats 4000000 in
theorem add_maynot (A : Option Addr) (n c : Nat) (l : List Pt) (p : Pt) (w : World) (hl : l.length = n) (hA : RdP w w.heap.size A l) (hr : RightP l) (hp : ¬ mayP p) (hpr : RdS w w.heap.size p.A p.fs) :
    Calls Try.prog 13 #[.slice A n c, ptV p] w fun e w' => e = .returned (.tuple #[.slice none 0 0, .int .i64 2]) ∧ Below w.heap.size w w' := by
  have hrt := rightB_t hr
  have hmt := mayB_f hp
  have hR := fun (X : World) (h : Below w.heap.size w X) => right_any A c l X ((hA.below h).more h.size (Nat.le_refl _))
  rw [hl, hrt] at hR
  have hM := fun (X : World) (h : Below w.heap.size w X) => may_any p X ((hpr.below h).more h.size (Nat.le_refl _))
  rw [hmt] at hM
  have HR := Lib.hid hR
  have HM := Lib.hid hM
  clear hR hM hA hr hrt hl hmt hpr hp
  obtain ⟨pid, pfs, pA, pc⟩ := p
  unfold ptV at *
  dsimp only at *
  refine (callsIn_wide (n := 10)).1 ?_
  refine callsIn_of_wp_marks Try.func13 rfl trivial ?_ rfl
  refine wpIn_wide.2 ?_
  simp only [Try.ntmps13, List.size_toArray, List.length_cons, List.length_nil, Nat.reduceAdd, Nat.reduceSub, Array.replicate_succ, Array.replicate_zero, List.push_toArray, List.append_toArray, List.nil_append, List.cons_append]
  go_wp2_with (fail)
  obtain ⟨WA, hWA⟩ : ∃ WA, WA = ((w.alloc (Obj.cells #[.int .u64 pid, .slice pA pfs.length pc] 26)).alloc (Obj.cells #[.slice none 0 0] 22)).alloc (Obj.cells #[.int .i64 0] 30) := ⟨_, rfl⟩
  have bP : BoxP WA w.heap.size ⟨pid, pfs, pA, pc⟩ := by
    rw [hWA]
    exact ((BoxP.new w ⟨pid, pfs, pA, pc⟩).grown (World.grownBy_alloc _ (Obj.cells #[.slice none 0 0] 22) none) (by simp)).grown (World.grownBy_alloc _ (Obj.cells #[.int .i64 0] 30) none) (by simp)
  obtain ⟨x0, x1⟩ := bP.cells
  dsimp only at x0 x1
  have b4 : Boxed WA (w.heap.size + 1) 22 (.slice none 0 0) := by
    rw [hWA]
    simpa using (Boxed.new (w.alloc (Obj.cells #[.int .u64 pid, .slice pA pfs.length pc] 26)) 22 (.slice none 0 0)).alloc (Obj.cells #[.int .i64 0] 30)
  have b5 : Boxed WA (w.heap.size + 1 + 1) 30 (.int .i64 0) := by
    rw [hWA]
    simpa using Boxed.new ((w.alloc (Obj.cells #[.int .u64 pid, .slice pA pfs.length pc] 26)).alloc (Obj.cells #[.slice none 0 0] 22)) 30 (.int .i64 0)
  have hbA : Below w.heap.size w WA := by rw [hWA]; exact bl_alloc (bl_alloc (bl_alloc (Below.refl _ _) _) _) _
  have hsA : WA.heap.size = w.heap.size + 3 := by rw [hWA]; simp
  rw [← hWA]
  clear hWA
  have HX : Hid (∀ X : Ext WA, Calls Try.prog 16 #[.slice A n c] X.val fun e w' => e = .returned (.bool true) ∧ Below X.val.heap.size X.val w') := Lib.hid fun X => HR.out X.val (hbA.trans (X.bl.mono (by omega)))
  have HY : Hid (∀ X : Ext WA, Calls Try.prog 29 #[.agg #[.int .u64 pid, .slice pA pfs.length pc]] X.val fun e w' => e = .returned (.bool false) ∧ Below X.val.heap.size X.val w') := Lib.hid fun X => HM.out X.val (hbA.trans (X.bl.mono (by omega)))
  have e0 := ext_cell x0
  have e1 := ext_cell x1
  have B4 := Lib.hid b4
  have B5 := Lib.hid b5
  have HBA := Lib.hid hbA
  clear b4 b5 hbA
  refine wp_region_ext (by kernel_rfl) (by kernel_rfl) ?_
  repeat (go_big_quiet_step (first | (go_at_call 16; exact ext_calls (HX.out _)) | (go_at_call 29; exact ext_calls (HY.out _))))
  refine wpQuiet_nil ?_
  rintro w2 ⟨⟨_, hb2⟩, rfl⟩
  have hs2 := hb2.size
  have b4 : Boxed w2 (w.heap.size + 1) 22 (.slice none 0 0) := (hb2.block _ (by omega)).trans B4.out
  have b5 : Boxed w2 (w.heap.size + 1 + 1) 30 (.int .i64 0) := (hb2.block _ (by omega)).trans B5.out
  have c4 := b4.cell
  have f4 := b4.frozen
  have c5 := b5.cell
  have f5 := b5.frozen
  have HB2 := Lib.hid (HBA.out.trans (hb2.mono (by omega)))
  clear hb2 e0 e1
  go_wp2_with (fail)
  have q4 := (b4.set (.slice none 0 0)).other (B' := w.heap.size + 1 + 1) (by omega) (.int .i64 2)
  have q5 : Boxed ((w2.setCell ⟨w.heap.size + 1, 0, none⟩ (.slice none 0 0)).setCell ⟨w.heap.size + 1 + 1, 0, none⟩ (.int .i64 2)) (w.heap.size + 1 + 1) 30 (.int .i64 2) := Boxed.set _ (b5.other (B' := w.heap.size + 1) (by omega) (.slice none 0 0))
  have k4 := q4.cell
  have k5 := q5.cell
  refine ⟨.tuple #[.slice none 0 0, .int .i64 2], by simp [results, Try.f13, go_sem, k4, k5], rfl, (HB2.out.setCell (p := ⟨w.heap.size + 1, 0, none⟩) (by dsimp only; omega) _).setCell (p := ⟨w.heap.size + 1 + 1, 0, none⟩) (by dsimp only; omega) _⟩
set_option maxRecDepth 100000 in
set_option maxHeartbeats 4000000 in
theorem add_good0 (A : Option Addr) (n c : Nat) (l : List Pt) (p : Pt) (w : World) (hl : l.length = n) (hA : RdP w w.heap.size A l) (hr : RightP l) (hp : mayP p) (hpr : RdS w w.heap.size p.A p.fs) (hpc : p.fs.length ≤ p.c) (hn : n = 0) :
    Calls Try.prog 13 #[.slice A n c, ptV p] w fun e w' => ∃ v, e = .returned (.tuple #[v, .int .i64 (addG l p)]) ∧ (addG l p ≠ 0 → v = .slice none 0 0) ∧ (addG l p = 0 → ∃ A' c' l', v = .slice A' (n + 1) c' ∧ sameP l' (l ++ [p]) ∧ OwnP w' w.heap.size A' l') ∧ Below w.heap.size w w' := by
  have hrt := rightB_t hr
  have hmt := mayB_t hp
  have hR := fun (X : World) (h : Below w.heap.size w X) => right_any A c l X ((hA.below h).more h.size (Nat.le_refl _))
  rw [hl, hrt] at hR
  have hM := fun (X : World) (h : Below w.heap.size w X) => may_any p X ((hpr.below h).more h.size (Nat.le_refl _))
  rw [hmt] at hM
  have HR := Lib.hid hR
  have HM := Lib.hid hM
  have HN0 := Lib.hid hn
  clear hn
  have hfs : ∀ p ∈ l, p.fs.length ≤ 256 := fun p hp => (hr.2.1 p hp).2.1
  have hn16 : n ≤ 16 := by have := hr.1; omega
  have hflat : (flat 0 l).length ≤ 4096 := by have := flat_length_le 0 l hfs; omega
  have hp256 := hp.2.1
  have HA := Lib.hid hA
  have HFS := Lib.hid hfs
  have HL := Lib.hid hl
  have HFL := Lib.hid hflat
  have HPR := Lib.hid hpr
  have HPC := Lib.hid hpc
  clear hfs hflat hR hM hA hr hrt hl hmt hpr hp hpc
  obtain ⟨pid, pfs, pA, pc⟩ := p
  unfold ptV at *
  dsimp only at *
  refine (callsIn_wide (n := 10)).1 ?_
  refine callsIn_of_wp_marks Try.func13 rfl trivial ?_ rfl
  refine wpIn_wide.2 ?_
  simp only [Try.ntmps13, List.size_toArray, List.length_cons, List.length_nil, Nat.reduceAdd, Nat.reduceSub, Array.replicate_succ, Array.replicate_zero, List.push_toArray, List.append_toArray, List.nil_append, List.cons_append]
  go_wp2_with (fail)
  obtain ⟨WA, hWA⟩ : ∃ WA, WA = ((w.alloc (Obj.cells #[.int .u64 pid, .slice pA pfs.length pc] 26)).alloc (Obj.cells #[.slice none 0 0] 22)).alloc (Obj.cells #[.int .i64 0] 30) := ⟨_, rfl⟩
  have bP : BoxP WA w.heap.size ⟨pid, pfs, pA, pc⟩ := by
    rw [hWA]
    exact ((BoxP.new w ⟨pid, pfs, pA, pc⟩).grown (World.grownBy_alloc _ (Obj.cells #[.slice none 0 0] 22) none) (by simp)).grown (World.grownBy_alloc _ (Obj.cells #[.int .i64 0] 30) none) (by simp)
  obtain ⟨x0, x1⟩ := bP.cells
  dsimp only at x0 x1
  have b4 : Boxed WA (w.heap.size + 1) 22 (.slice none 0 0) := by
    rw [hWA]
    simpa using (Boxed.new (w.alloc (Obj.cells #[.int .u64 pid, .slice pA pfs.length pc] 26)) 22 (.slice none 0 0)).alloc (Obj.cells #[.int .i64 0] 30)
  have b5 : Boxed WA (w.heap.size + 1 + 1) 30 (.int .i64 0) := by
    rw [hWA]
    simpa using Boxed.new ((w.alloc (Obj.cells #[.int .u64 pid, .slice pA pfs.length pc] 26)).alloc (Obj.cells #[.slice none 0 0] 22)) 30 (.int .i64 0)
  have hbA : Below w.heap.size w WA := by rw [hWA]; exact bl_alloc (bl_alloc (bl_alloc (Below.refl _ _) _) _) _
  have hsA : WA.heap.size = w.heap.size + 3 := by rw [hWA]; simp
  rw [← hWA]
  clear hWA
  have HX : Hid (∀ X : Ext WA, Calls Try.prog 16 #[.slice A n c] X.val fun e w' => e = .returned (.bool true) ∧ Below X.val.heap.size X.val w') := Lib.hid fun X => HR.out X.val (hbA.trans (X.bl.mono (by omega)))
  have HY : Hid (∀ X : Ext WA, Calls Try.prog 29 #[.agg #[.int .u64 pid, .slice pA pfs.length pc]] X.val fun e w' => e = .returned (.bool true) ∧ Below X.val.heap.size X.val w') := Lib.hid fun X => HM.out X.val (hbA.trans (X.bl.mono (by omega)))
  have H0 : Hid (decide ((0 : Int) < (n : Int)) = false) := dec_f (by have := HN0.out; omega)
  have H0n : Hid (decide (0 < n) = false) := dec_f (by have := HN0.out; omega)
  have e0 := ext_cell x0
  have e1 := ext_cell x1
  have B4 := Lib.hid b4
  have B5 := Lib.hid b5
  have BP := Lib.hid bP
  have HBA := Lib.hid hbA
  clear b4 b5 hbA bP
  refine wp_region_ext (by kernel_rfl) (by kernel_rfl) ?_
  repeat (first | rw [H0.out] | rw [H0n.out] | go_big_quiet_step (first | (go_at_call 16; exact ext_calls (HX.out _)) | (go_at_call 29; exact ext_calls (HY.out _))))
  refine wpQuiet_nil ?_
  rintro w2 ⟨⟨_, hb2⟩, rfl⟩
  have hs2 := hb2.size
  have B4 : Hid (Boxed w2 (w.heap.size + 1) 22 (.slice none 0 0)) := Lib.hid ((hb2.block _ (by omega)).trans B4.out)
  have B5 : Hid (Boxed w2 (w.heap.size + 1 + 1) 30 (.int .i64 0)) := Lib.hid ((hb2.block _ (by omega)).trans B5.out)
  have BP : Hid (BoxP w2 w.heap.size ⟨pid, pfs, pA, pc⟩) := Lib.hid (BP.out.kw hb2 (by omega))
  have HB2 := Lib.hid (HBA.out.trans (hb2.mono (by omega)))
  clear hb2 e0 e1 x0 x1 
  go_wp2_with (go_at_call 30; refine (callsIn_wide.1 (files_in Fence.wide 5 trivial rfl _ _ _ _)).mono ?_; rintro e w' ⟨rfl, rfl⟩)
  have hfsl := HFS.out
  have hflat := HFL.out
  have hlen := HL.out
  have bS := Boxed.new w2 22 (.slice A n c)
  have hbW : Below w2.heap.size w2 (w2.alloc (Obj.cells #[Value.slice A n c] 22)) := bl_alloc (Below.refl _ _) _
  have hBL : Below w.heap.size w (w2.alloc (Obj.cells #[Value.slice A n c] 22)) := HB2.out.trans (hbW.mono (by omega))
  have b4 : Boxed (w2.alloc (Obj.cells #[Value.slice A n c] 22)) (w.heap.size + 1) 22 (.slice none 0 0) := B4.out.alloc _
  have b5 : Boxed (w2.alloc (Obj.cells #[Value.slice A n c] 22)) (w.heap.size + 1 + 1) 30 (.int .i64 0) := B5.out.alloc _
  have bP : BoxP (w2.alloc (Obj.cells #[Value.slice A n c] 22)) w.heap.size ⟨pid, pfs, pA, pc⟩ := BP.out.kw hbW (by omega)
  have hsz : (w2.alloc (Obj.cells #[Value.slice A n c] 22)).heap.size = w2.heap.size + 1 := by simp
  generalize (w2.alloc (Obj.cells #[Value.slice A n c] 22)) = WL at *
  have hPL : RdP WL w.heap.size A l := HA.out.below hBL
  refine (wpIn_wide (n := 10)).1 ?_
  refine wpIn_rangeFunc_ownH rfl (by omega) (gf := 44) (lb := #[.pointer (some ⟨w2.heap.size, 0, none⟩)]) rfl trivial (enters_of Try.func44 (by kernel_rfl) rfl)
    (files_stops Fence.wide (10 - 1) trivial rfl (by omega) w2.heap.size w.heap.size A c l (by omega) (fun p hp => by have := hfsl p hp; omega) WL (by omega) (by omega) (by rw [hlen]; exact bS.cell) hPL) belowK_t (belowK_b (by omega)) (Below.refl _ _) (fun _ => rfl)
    (fun pre W => ((((¬ clashL (pre.map Prod.snd) pfs) ∧ BoxP W w.heap.size ⟨pid, pfs, pA, pc⟩) ∧ Boxed W (w.heap.size + 1) 22 (.slice none 0 0)) ∧ Boxed W (w.heap.size + 1 + 1) 30 (.int .i64 0)) ∧ Below w.heap.size w W)
    (fun cd pre W => (((cd = .ret ∧ clashL (pre.map Prod.snd) pfs) ∧ Boxed W (w.heap.size + 1) 22 (.slice none 0 0)) ∧ Boxed W (w.heap.size + 1 + 1) 30 (.int .i64 5)) ∧ Below w.heap.size w W)
    (OwnFrom.and (OwnFrom.and (OwnFrom.and (OwnFrom.and (ownFrom_pure _ _) (fun s' X Y row hs hg hr => hs.own hg (fun r e => (hr r e).2))) (Own.from (boxed_own _ _ _) _)) (Own.from (boxed_own _ _ _) _)) (ownFrom_below (Nat.le_refl _) (by omega)))
    (fun cd => OwnFrom.and (OwnFrom.and (OwnFrom.and (ownFrom_pure _ _) (Own.from (boxed_own _ _ _) _)) (Own.from (boxed_own _ _ _) _)) (ownFrom_below (Nat.le_refl _) (by omega)))
    ⟨⟨⟨⟨by simp [clashL], bP⟩, b4⟩, b5⟩, hBL⟩
    (fun x a' W => ∃ Bx, w.heap.size + 1 + 1 < Bx ∧ BoxS W Bx x.2 ∧ a' = { tmps := #[.slice A n c, .agg #[.int .u64 pid, .slice pA pfs.length pc], undef, .pointer (some ⟨w.heap.size, 0, none⟩), .pointer (some ⟨w.heap.size + 1, 0, none⟩), .pointer (some ⟨w.heap.size + 1 + 1, 0, none⟩), undef, .pointer (some ⟨Bx, 0, none⟩), undef, undef, .slice A n c, .bool true, .bool false, .bool false, .agg #[.int .u64 pid, .slice pA pfs.length pc], .bool true, .bool false, .bool false, .bool false, .slice A n c, .int .i64 (n : Int), .bool false, .bool false, undef, undef, undef, undef, undef, undef, undef, undef, undef, undef, .bool false, .bool false, .slice A n c, .func (.func 44) #[] #[.pointer (some ⟨w2.heap.size, 0, none⟩)], .int .i64 (x.1 : Int), shV x.2, undef, undef, undef, undef, undef, undef, undef, undef, undef, undef, undef, undef, undef, undef, undef, undef, undef, undef, undef, undef, undef, undef, undef, undef, undef, undef, undef], defers := [] })
    (fun x a' _ X Y row hs hg hr => by obtain ⟨Bx, e1, e2, e3⟩ := hs; exact ⟨Bx, e1, e2.own hg (fun r e => (hr r e).2), e3⟩)
    ?assign ?body ?done ?stop
  case assign =>
    rintro lp pre x W K ⟨⟨⟨⟨k1, k2⟩, k3⟩, k4⟩, h5⟩ hK
    simp only [encN, shV]
    gi_wp2
    exact hK _ _ ((KeepsOthers.alloc _ _).from _) ((Below.refl _ W).alloc h5.size _) ⟨⟨⟨⟨k1, k2.grown (World.grownBy_alloc _ _ none) (by simp)⟩, k3.alloc _⟩, k4.alloc _⟩, h5.alloc h5.size _⟩ ⟨W.heap.size, k4.lt, BoxS.new W x.2, rfl⟩
  case body =>
    rintro lp pre x a' W hlp ⟨r, hr⟩ ⟨⟨⟨⟨k1, k2⟩, k3⟩, k4⟩, h5⟩ ⟨Bx, hBx, hxb, rfl⟩ hpl
    obtain ⟨c0, c1⟩ := k2.cells
    dsimp only at c1
    have hsW := h5.size
    have hl2 := k2.lt
    have hl3 := k3.lt
    have hl4 := k4.lt
    have hlX := hxb.lt
    have hsn : (pre ++ [x]).map Prod.snd = pre.map Prod.snd ++ [x.2] := by simp
    obtain ⟨xi, f⟩ := x
    dsimp only at *
    have J1 := Lib.hid k1
    have J2 := Lib.hid k2
    have J3 := Lib.hid k3
    have J4 := Lib.hid k4
    have H5 := Lib.hid h5
    have HX := Lib.hid hxb
    have HSN := Lib.hid hsn
    obtain ⟨pm, hpm⟩ : ∃ pm, pfs.length = pm := ⟨_, rfl⟩
    rw [hpm] at c1
    have HPM := Lib.hid hpm
    have hp256' : pm ≤ 256 := by omega
    clear k1 k2 k3 k4 h5 hsn hxb hr hpm hlen hflat hfsl bS hPL bP b4 b5 hp256
    gi_wp2
    gi_loopw [42] (fun vk wq => ∃ k : Nat, k ≤ pm ∧ vk = .int .i64 k ∧ (∀ g ∈ pfs.take k, f.nm = g.nm → f = g) ∧ Below W.heap.size W wq) (fun k _ => pm - (intOf k).toNat)
    case atStart => exact ⟨0, Nat.zero_le _, rfl, by simp, Below.refl _ _⟩
    case round =>
      obtain ⟨k, hkm, rfl, hno, hbl⟩ := hrel
      have HNO := Lib.hid hno
      have HBL := Lib.hid hbl
      have hwk := hbl.size
      clear hno
      by_cases hk : k < pm
      · have hk0 : (0 : Int) ≤ (k : Int) := by omega
        have hk1 : (k : Int) < (pm : Int) := by omega
        obtain ⟨bs, offs, rfl, hbs, _, hcs⟩ := HPR.out (by rw [HPM.out]; omega)
        obtain ⟨f0, f1, f2, f3⟩ := hcs k (by rw [HPM.out]; exact hk)
        have hsu := take_snocS (l := pfs) (i := k) (by rw [HPM.out]; exact hk)
        obtain ⟨g, hg⟩ : ∃ g, pfs.getD k zeroS = g := ⟨_, rfl⟩
        have hgm : g ∈ pfs := by rw [← hg]; exact getS_mem (by rw [HPM.out]; exact hk)
        rw [hg] at f0 f1 f2 f3 hsu
        have hbq := H5.out.trans (hbl.mono hsW)
        have f0 := (hbq.cell (p := ⟨bs, offs + k * 4, none⟩) hbs).trans f0
        have f1 := (hbq.cell (p := ⟨bs, offs + k * 4 + 1, none⟩) hbs).trans f1
        have f2 := (hbq.cell (p := ⟨bs, offs + k * 4 + 2, none⟩) hbs).trans f2
        have f3 := (hbq.cell (p := ⟨bs, offs + k * 4 + 3, none⟩) hbs).trans f3
        have hbk : bs < wr.heap.size := by omega
        obtain ⟨y0, y1, y2, y3⟩ := (HX.out.kw hbl hlX).cells
        have hlX' : Bx < wr.heap.size := by omega
        have J3' := Lib.hid (show Boxed wr (w.heap.size + 1) 22 (.slice none 0 0) from (hbl.block _ hl3).trans J3.out)
        have J4' := Lib.hid (show Boxed wr (w.heap.size + 1 + 1) 30 (.int .i64 0) from (hbl.block _ hl4).trans J4.out)
        have HSU := Lib.hid hsu
        have HGM := Lib.hid hgm
        have HBQ := Lib.hid hbq
        have hl3' : w.heap.size + 1 < wr.heap.size := by omega
        have hl4' : w.heap.size + 1 + 1 < wr.heap.size := by omega
        clear hcs hg hsu hgm hbq hbl
        have hgo : (f.nm = g.nm → f = g) → Hid (∀ g ∈ pfs.take (k + 1), f.nm = g.nm → f = g) := fun h => Lib.hid (by
          rw [HSU.out]
          intro g' hg'
          rcases List.mem_append.1 hg' with h' | h'
          · exact HNO.out g' h'
          · rw [List.mem_singleton.1 h']
            exact h)
        by_cases hnm : f.nm = g.nm
        · by_cases hfg : f = g
          · have HV := hgo (fun _ => hfg)
            subst hfg
            clear hgo hnm
            have hbE := Lib.hid (HBL.out.alloc HBL.out.size (Obj.cells #[.int .u64 f.tb, .int .i64 f.sz, .int .u32 f.sm, .int .u64 f.nm] 36))
            gi_wp2
            go_roundw
            case rel => exact ⟨k + 1, by omega, by first | rfl | (push_cast; rfl) | go_num, HV.out, hbE.out⟩
            case measure => simp [intOf]; omega
          · have HV : Hid (clashL ((pre ++ [(xi, f)]).map Prod.snd) pfs) := Lib.hid (by rw [HSN.out]; exact ⟨f, by simp, g, HGM.out, hnm, hfg⟩)
            have hpr := sh_parts hfg hnm
            have hbE := Lib.hid (HBL.out.alloc HBL.out.size (Obj.cells #[.int .u64 g.tb, .int .i64 g.sz, .int .u32 g.sm, .int .u64 g.nm] 36))
            have q3 := J3'.out.cell
            have r3 := J3'.out.frozen
            have q4 := J4'.out.cell
            have r4 := J4'.out.frozen
            clear hgo hfg
            obtain ⟨gt, gs, gm, gn, g5, g6, g7, g8⟩ := g
            obtain ⟨ft, fs, fm, fn, f5, f6, f7, f8⟩ := f
            dsimp only at *
            subst hnm
            rcases hpr with hne | ⟨rfl, hne⟩ | ⟨rfl, rfl, hne⟩
            · gi_wp2
              exact ⟨((keepsFrom_below HBL.out).trans ((KeepsOthers.setCell _ _ _).from _)).trans (((KeepsOthers.setCell _ _ _).from _).trans ((KeepsOthers.alloc _ _).from _)),
                ⟨⟨⟨⟨rfl, HV.out⟩, ((J3'.out.set (.slice none 0 0)).other (B' := w.heap.size + 1 + 1) (by omega) (.int .i64 5)).alloc _⟩, (Boxed.set _ (J4'.out.other (B' := w.heap.size + 1) (by omega) (.slice none 0 0))).alloc _⟩,
                  ((HBQ.out.setCell (p := ⟨w.heap.size + 1, 0, none⟩) (by dsimp only; omega) _).setCell (p := ⟨w.heap.size + 1 + 1, 0, none⟩) (by dsimp only; omega) _).alloc (by simpa [World.setCell] using HBQ.out.size) _⟩⟩
            · gi_wp2
              exact ⟨((keepsFrom_below HBL.out).trans ((KeepsOthers.setCell _ _ _).from _)).trans (((KeepsOthers.setCell _ _ _).from _).trans ((KeepsOthers.alloc _ _).from _)),
                ⟨⟨⟨⟨rfl, HV.out⟩, ((J3'.out.set (.slice none 0 0)).other (B' := w.heap.size + 1 + 1) (by omega) (.int .i64 5)).alloc _⟩, (Boxed.set _ (J4'.out.other (B' := w.heap.size + 1) (by omega) (.slice none 0 0))).alloc _⟩,
                  ((HBQ.out.setCell (p := ⟨w.heap.size + 1, 0, none⟩) (by dsimp only; omega) _).setCell (p := ⟨w.heap.size + 1 + 1, 0, none⟩) (by dsimp only; omega) _).alloc (by simpa [World.setCell] using HBQ.out.size) _⟩⟩
            · gi_wp2
              exact ⟨((keepsFrom_below HBL.out).trans ((KeepsOthers.setCell _ _ _).from _)).trans (((KeepsOthers.setCell _ _ _).from _).trans ((KeepsOthers.alloc _ _).from _)),
                ⟨⟨⟨⟨rfl, HV.out⟩, ((J3'.out.set (.slice none 0 0)).other (B' := w.heap.size + 1 + 1) (by omega) (.int .i64 5)).alloc _⟩, (Boxed.set _ (J4'.out.other (B' := w.heap.size + 1) (by omega) (.slice none 0 0))).alloc _⟩,
                  ((HBQ.out.setCell (p := ⟨w.heap.size + 1, 0, none⟩) (by dsimp only; omega) _).setCell (p := ⟨w.heap.size + 1 + 1, 0, none⟩) (by dsimp only; omega) _).alloc (by simpa [World.setCell] using HBQ.out.size) _⟩⟩
        · have HV := hgo (fun e => absurd e hnm)
          clear hgo
          have hbE := Lib.hid (HBL.out.alloc HBL.out.size (Obj.cells #[.int .u64 g.tb, .int .i64 g.sz, .int .u32 g.sm, .int .u64 g.nm] 36))
          gi_wp2
          go_roundw
          case rel => exact ⟨k + 1, by omega, by first | rfl | (push_cast; rfl) | go_num, HV.out, hbE.out⟩
          case measure => simp [intOf]; omega
      · have hke : k = pm := by omega
        subst hke
        have hirr : ¬ (k : Int) < (k : Int) := by omega
        have HV : Hid (¬ clashL ((pre ++ [(xi, f)]).map Prod.snd) pfs) := Lib.hid (by
          rw [HSN.out]
          rintro ⟨f', hf', g, hg, e1, e2⟩
          rcases List.mem_append.1 hf' with h | h
          · exact J1.out ⟨f', h, g, hg, e1, e2⟩
          · rw [List.mem_singleton.1 h] at e1 e2
            exact e2 (HNO.out g (by rw [List.take_of_length_le (by rw [HPM.out]; exact Nat.le_refl _)]; exact hg) e1))
        clear hbl
        gi_wp2
        exact ⟨keepsFrom_below HBL.out, HBL.out.mono hsW, ⟨⟨⟨⟨HV.out, J2.out.kw HBL.out hl2⟩, (HBL.out.block _ hl3).trans J3.out⟩, (HBL.out.block _ hl4).trans J4.out⟩, H5.out.trans (HBL.out.mono hsW)⟩⟩
  case done =>
    rintro D ys W hD rfl ⟨⟨⟨⟨k1, k2⟩, k3⟩, k4⟩, h5⟩ hK
    have HC : Hid (¬ clashL (allF l) pfs) := Lib.hid k1
    obtain ⟨x0, x1⟩ := k2.cells
    dsimp only at x0 x1
    have c4 := k3.cell
    have f4 := k3.frozen
    have c5 := k4.cell
    have f5 := k4.frozen
    have J3 := Lib.hid k3
    have J4 := Lib.hid k4
    have H5 := Lib.hid h5
    have HK := Lib.hid hK
    have hl2 := k2.lt
    have hl3 := k3.lt
    have hl4 := k4.lt
    have hDl : D < W.heap.size := (Array.getElem?_eq_some_iff.1 hK).1
    have hsW := h5.size
    clear k1 k2 k3 k4 h5 hK bS hPL bP b4 b5 hlen hflat hfsl
    by_cases h16 : n = 16
    · have HG : Hid (addG l ⟨pid, pfs, pA, pc⟩ = 3) := Lib.hid (by unfold addG; rw [if_neg HC.out, if_pos (by rw [HL.out]; exact h16)])
      subst h16
      go_wp2_with (fail)
      have q4 := (J3.out.set (.slice none 0 0)).other (B' := w.heap.size + 1 + 1) (by omega) (.int .i64 3)
      have q5 : Boxed ((W.setCell ⟨w.heap.size + 1, 0, none⟩ (.slice none 0 0)).setCell ⟨w.heap.size + 1 + 1, 0, none⟩ (.int .i64 3)) (w.heap.size + 1 + 1) 30 (.int .i64 3) := Boxed.set _ (J4.out.other (B' := w.heap.size + 1) (by omega) (.slice none 0 0))
      have hBE := Lib.hid ((H5.out.setCell (p := ⟨w.heap.size + 1, 0, none⟩) (by dsimp only; omega) (.slice none 0 0)).setCell (p := ⟨w.heap.size + 1 + 1, 0, none⟩) (by dsimp only; omega) (.int .i64 3))
      have hK6 : ((W.setCell ⟨w.heap.size + 1, 0, none⟩ (.slice none 0 0)).setCell ⟨w.heap.size + 1 + 1, 0, none⟩ (.int .i64 3)).heap[D]? = some (Obj.deferred (some [])) := (Below.heap_setCell _ _ _ _ (by dsimp only; omega)).trans ((Below.heap_setCell _ _ _ _ (by dsimp only; omega)).trans HK.out)
      generalize ((W.setCell ⟨w.heap.size + 1, 0, none⟩ (.slice none 0 0)).setCell ⟨w.heap.size + 1 + 1, 0, none⟩ (.int .i64 3)) = W5 at *
      refine ⟨by simp, .inl ⟨_, _, rfl, run_takeDeferred hK6, ?_⟩⟩
      have hgp := grownBy_putObj' W5 D (.deferred none)
      have hne : ∀ r, some D = some r → ∃ o : Obj, W5.heap[r]? = some o ∧ o.isCells = false := fun r e => by cases e; exact ⟨_, hK6, rfl⟩
      have z4 := cell_kept (W := W5) q4.cell hgp hne
      have z5 := cell_kept (W := W5) q5.cell hgp hne
      refine ⟨.tuple #[.slice none 0 0, .int .i64 3], ?_, _, by rw [HG.out], fun _ => rfl, fun h => by rw [HG.out] at h; omega, hBE.out.trans (belowK_b (w := WL) (by omega) W5 D _ _ hD hK6 rfl rfl)⟩
      simp [results, Try.f13, go_sem, z4, z5]
    · have HG : Hid (addG l ⟨pid, pfs, pA, pc⟩ = 0) := Lib.hid (by unfold addG; rw [if_neg HC.out, if_neg (by rw [HL.out]; exact h16)])
      have hne16 : ¬ (n : Int) = 16 := by omega
      have hneb : ((n : Int) == 16) = false := by simpa using hne16
      have C2 : ∀ z, Below W.heap.size W z → z.cell? ⟨w.heap.size, 0, none⟩ = some (.int .u64 pid) ∧ z.cell? ⟨w.heap.size, 1, none⟩ = some (.slice pA pfs.length pc) := fun z hz => ⟨(hz.cell hl2).trans x0, (hz.cell hl2).trans x1⟩
      have RA : ∀ z, Below W.heap.size W z → RdP z w.heap.size A l := fun z hz => HA.out.below (H5.out.trans (hz.mono hsW))
      have RF : ∀ z, Below W.heap.size W z → RdS z w.heap.size pA pfs := fun z hz => HPR.out.below (H5.out.trans (hz.mono hsW))
      have hn6 : n ≤ 1000000 := by omega
      have hn7 : n + 1 ≤ 1000001 := by omega
      have hn7' : n + 1 ≤ 1000000 := by omega
      have hL1 : (l ++ [(⟨pid, pfs, pA, pc⟩ : Pt)]).length = n + 1 := by rw [List.length_append, HL.out]; rfl
      have hF7 : ∀ p ∈ l ++ [(⟨pid, pfs, pA, pc⟩ : Pt)], p.fs.length ≤ 1000000 := fun p hp => by
        rcases List.mem_append.1 hp with h | h
        · have := HFS.out p h; omega
        · rw [List.mem_singleton.1 h]; dsimp only; omega
      have RF2 : ∀ z, Below W.heap.size W z → ∀ p ∈ l ++ [(⟨pid, pfs, pA, pc⟩ : Pt)], RdS z z.heap.size p.A p.fs ∧ p.fs.length ≤ p.c := fun z hz p hp => by
        have hzs := hz.size
        rcases List.mem_append.1 hp with h | h
        · exact ⟨((RA z hz).2 p h).1.more (by omega) (Nat.le_refl _), ((RA z hz).2 p h).2⟩
        · rw [List.mem_singleton.1 h]
          exact ⟨(RF z hz).more (by omega) (Nat.le_refl _), HPC.out⟩
      have HBQ : Hid (Below W.heap.size W W.drew) := Lib.hid (Below.refl _ _).drew
      have HBP : Hid (Below W.heap.size W (W.alloc (Obj.cells #[.int .u64 pid, .slice pA pfs.length pc] 26)).drew) := Lib.hid ((Below.refl W.heap.size W).alloc (Nat.le_refl _) _).drew
      have hszA : W.heap.size < (W.alloc (Obj.cells #[.int .u64 pid, .slice pA pfs.length pc] 26)).drew.heap.size := size_new _ _
      obtain ⟨cA0, cA1⟩ : (W.alloc (Obj.cells #[.int .u64 pid, .slice pA pfs.length pc] 26)).drew.cell? ⟨W.heap.size, 0, none⟩ = some (.int .u64 pid) ∧ (W.alloc (Obj.cells #[.int .u64 pid, .slice pA pfs.length pc] 26)).drew.cell? ⟨W.heap.size, 1, none⟩ = some (.slice pA pfs.length pc) := two_new W _ _ _
      clear h16
      go_wp2_with (fail)
      go_region_held3 (fun z => z.cell? ⟨w.heap.size, 0, none⟩ = some (.int .u64 pid) ∧ z.cell? ⟨w.heap.size, 1, none⟩ = some (.slice pA pfs.length pc)) (first | exact ⟨x0, x1⟩ | exact ⟨(setc_ne _ _ _ _ _ _ (by omega)).trans s0, (setc_ne _ _ _ _ _ _ (by omega)).trans s1⟩ | exact ⟨(setc_ne _ _ _ _ _ _ (by omega)).trans ((setc_ne _ _ _ _ _ _ (by omega)).trans s0), (setc_ne _ _ _ _ _ _ (by omega)).trans ((setc_ne _ _ _ _ _ _ (by omega)).trans s1)⟩ | (refine C2 _ ?_; repeat (first | exact Below.refl _ _ | exact HB5.out | exact HB4.out | exact HB3.out | refine Below.drew ?_ | refine Below.alloc ?_ (by first | exact HB5.out.size | exact HB4.out.size | exact HB3.out.size | omega | (simp; omega) | (simp; done)) _)))
        (first
        | (go_at_call 32; refine (cloneP_any A n c w.heap.size l _ HL.out ?_ hn6).mono ?_; exact RA _ HBP.out; rintro e w3 ⟨v3, rfl, hown3, hb3⟩; have HB3 : Hid (Below W.heap.size W w3) := Lib.hid (HBP.out.trans (hb3.mono HBP.out.size)); have HO3 : Hid (w3.ownsRow W.heap.size 26 2 v3 n (pcells l)) := Lib.hid (own_le hown3 HBP.out.size); have d0 := (hb3.cell (p := ⟨W.heap.size, 0, none⟩) hszA).trans cA0; have d1 := (hb3.cell (p := ⟨W.heap.size, 1, none⟩) hszA).trans cA1; have hlw3 : W.heap.size < w3.heap.size := Nat.lt_of_lt_of_le hszA hb3.size)
        | (go_at_call 32; refine (cloneP_any A n c w.heap.size l _ HL.out ?_ hn6).mono ?_; exact RA _ HBQ.out; rintro e w3 ⟨v3, rfl, hown3, hb3⟩; have HB3 : Hid (Below W.heap.size W w3) := Lib.hid (HBQ.out.trans (hb3.mono HBQ.out.size)); have HO3 : Hid (w3.ownsRow W.heap.size 26 2 v3 n (pcells l)) := Lib.hid (own_le hown3 HBQ.out.size))
        | (refine step_append_p _ rfl _ _ rfl W.heap.size n v3 l rfl HO3.out ⟨W.heap.size, 0, none⟩ 1 ⟨pid, pfs, pA, pc⟩ rfl ⟨d0, d1⟩ hn7 HB3.out.size ?_; intro v4 w4 hown4 hg4; have HO4 := Lib.hid hown4; have HB4 : Hid (Below W.heap.size W w4) := Lib.hid (HB3.out.grown hg4 HB3.out.size (own_ge HO3.out)); clear hown4 hg4)
        | (refine step_append_p _ rfl _ _ rfl W.heap.size n v3 l rfl (own_new HO3.out (Below.alloc (Below.refl _ _) (Nat.le_refl _) _)) ⟨w3.heap.size, 0, none⟩ 1 ⟨pid, pfs, pA, pc⟩ rfl (two_new _ _ _ _) hn7 (Nat.le_trans HB3.out.size (Nat.le_of_lt (size_new _ _))) ?_; intro v4 w4 hown4 hg4; have HO4 := Lib.hid hown4; have HB4 : Hid (Below W.heap.size W w4) := Lib.hid (((HB3.out.alloc HB3.out.size _).grown hg4 (Nat.le_trans HB3.out.size (Nat.le_of_lt (size_new _ _))) (own_ge HO3.out))); clear hown4 hg4)
        | (go_at_call 31; obtain ⟨A4, c4', rfl, hR4, _⟩ := own_rp HO4.out hL1 (RF2 _ HB4.out); refine (own_any A4 c4' (n + 1) (l ++ [⟨pid, pfs, pA, pc⟩]) _ hL1 hR4 hn7' hF7).mono ?_; rintro e w5 ⟨A5, c5', l5, rfl, hsm, hop, hb5⟩; have HSM := Lib.hid hsm; have HOP := Lib.hid (hop.le HB4.out.size); have HB5 : Hid (Below W.heap.size W w5) := Lib.hid (HB4.out.trans (hb5.mono HB4.out.size)); have J3w : Boxed w5 (w.heap.size + 1) 22 (.slice none 0 0) := (HB5.out.block _ hl3).trans J3.out; have J4w : Boxed w5 (w.heap.size + 1 + 1) 30 (.int .i64 0) := (HB5.out.block _ hl4).trans J4.out; have q4 := J3w.cell; have g4 := J3w.frozen; have q5 := J4w.cell; have g5 := J4w.frozen; obtain ⟨s0, s1⟩ := C2 _ HB5.out; have hs3w := J3w.lt; have hs4w := J4w.lt; clear hsm hop hb5)
        )
      all_goals
        have hKw := (HB5.out.block D hDl).trans HK.out
        have HJ3 := Lib.hid J3w
        have HJ4 := Lib.hid J4w
        have HBW := Lib.hid (H5.out.trans (HB5.out.mono hsW))
        have HKW := Lib.hid hKw
        clear J3w J4w hKw
        go_wp2_with (fail)
        have q4' := (HJ3.out.set (.slice A5 (n + 1) c5')).other (B' := w.heap.size + 1 + 1) (by omega) (.int .i64 0)
        have q5' : Boxed ((w5.setCell ⟨w.heap.size + 1, 0, none⟩ (.slice A5 (n + 1) c5')).setCell ⟨w.heap.size + 1 + 1, 0, none⟩ (.int .i64 0)) (w.heap.size + 1 + 1) 30 (.int .i64 0) := Boxed.set _ (HJ4.out.other (B' := w.heap.size + 1) (by omega) (.slice A5 (n + 1) c5'))
        have hBE := Lib.hid ((HBW.out.setCell (p := ⟨w.heap.size + 1, 0, none⟩) (by dsimp only; omega) (.slice A5 (n + 1) c5')).setCell (p := ⟨w.heap.size + 1 + 1, 0, none⟩) (by dsimp only; omega) (.int .i64 0))
        have hK6 : ((w5.setCell ⟨w.heap.size + 1, 0, none⟩ (.slice A5 (n + 1) c5')).setCell ⟨w.heap.size + 1 + 1, 0, none⟩ (.int .i64 0)).heap[D]? = some (Obj.deferred (some [])) := (Below.heap_setCell _ _ _ _ (by dsimp only; omega)).trans ((Below.heap_setCell _ _ _ _ (by dsimp only; omega)).trans HKW.out)
        have hO6 : OwnP ((w5.setCell ⟨w.heap.size + 1, 0, none⟩ (.slice A5 (n + 1) c5')).setCell ⟨w.heap.size + 1 + 1, 0, none⟩ (.int .i64 0)) W.heap.size A5 l5 :=
          HOP.out.kw (S := fun b => b < W.heap.size) (Kw.setCell (Kw.setCell (Kw.refl _ _) (p := ⟨w.heap.size + 1, 0, none⟩) hl3 _) (p := ⟨w.heap.size + 1 + 1, 0, none⟩) hl4 _) (fun b hb => by omega)
        generalize ((w5.setCell ⟨w.heap.size + 1, 0, none⟩ (.slice A5 (n + 1) c5')).setCell ⟨w.heap.size + 1 + 1, 0, none⟩ (.int .i64 0)) = W6 at *
        refine ⟨by simp, .inl ⟨_, _, rfl, run_takeDeferred hK6, ?_⟩⟩
        have hgp := grownBy_putObj' W6 D (.deferred none)
        have hne : ∀ r, some D = some r → ∃ o : Obj, W6.heap[r]? = some o ∧ o.isCells = false := fun r e => by cases e; exact ⟨_, hK6, rfl⟩
        have z4 := cell_kept (W := W6) q4'.cell hgp hne
        have z5 := cell_kept (W := W6) q5'.cell hgp hne
        have hO7 := (hO6.kw (S := fun b => b < W.heap.size) ((Kw.refl _ _).grown hgp (fun k e => by cases e; exact hDl)) (fun b hb => by omega)).le hsW
        refine ⟨.tuple #[.slice A5 (n + 1) c5', .int .i64 0], ?_, _, by rw [HG.out], fun h => absurd HG.out h, fun _ => ⟨A5, c5', l5, rfl, HSM.out, hO7⟩, hBE.out.trans (belowK_b (w := WL) (by omega) W6 D _ _ hD hK6 rfl rfl)⟩
        simp [results, Try.f13, go_sem, z4, z5]
  case stop =>
    rintro D cd pre W hD hpre ⟨⟨⟨⟨rfl, h1⟩, h3⟩, h4⟩, h5⟩ hK
    have HG : Hid (addG l ⟨pid, pfs, pA, pc⟩ = 5) := Lib.hid (by
      obtain ⟨f, hf, g, hg, e1, e2⟩ := h1
      unfold addG
      rw [if_pos ⟨f, (hpre.map _).subset hf, g, hg, e1, e2⟩])
    have J3 := Lib.hid h3
    have J4 := Lib.hid h4
    have H5 := Lib.hid h5
    have HK := Lib.hid hK
    clear h1 h3 h4 h5 hK hlen hflat hfsl bS hPL bP b4 b5
    gi_wp2
    refine ⟨by simp, .inl ⟨_, _, rfl, run_takeDeferred HK.out, ?_⟩⟩
    have z4 := cell_kept J3.out.cell (grownBy_putObj' _ D (.deferred none)) (fun r e => by cases e; exact ⟨_, HK.out, rfl⟩)
    have z5 := cell_kept J4.out.cell (grownBy_putObj' _ D (.deferred none)) (fun r e => by cases e; exact ⟨_, HK.out, rfl⟩)
    refine ⟨.tuple #[.slice none 0 0, .int .i64 5], ?_, _, by rw [HG.out], fun _ => rfl, fun h => by rw [HG.out] at h; omega, H5.out.trans (belowK_b (w := WL) (by omega) W D _ _ hD HK.out rfl rfl)⟩
    simp [results, Try.f13, go_sem, z4, z5]
set_option maxRecDepth 100000 in
set_option maxHeartbeats 4000000 in
theorem add_goodN (A : Option Addr) (n c : Nat) (l : List Pt) (p : Pt) (w : World) (hl : l.length = n) (hA : RdP w w.heap.size A l) (hr : RightP l) (hp : mayP p) (hpr : RdS w w.heap.size p.A p.fs) (hpc : p.fs.length ≤ p.c) (hn : 0 < n) (hlast : (l.getD (n - 1) zeroP).id < p.id) :
    Calls Try.prog 13 #[.slice A n c, ptV p] w fun e w' => ∃ v, e = .returned (.tuple #[v, .int .i64 (addG l p)]) ∧ (addG l p ≠ 0 → v = .slice none 0 0) ∧ (addG l p = 0 → ∃ A' c' l', v = .slice A' (n + 1) c' ∧ sameP l' (l ++ [p]) ∧ OwnP w' w.heap.size A' l') ∧ Below w.heap.size w w' := by
  have hrt := rightB_t hr
  have hmt := mayB_t hp
  have hR := fun (X : World) (h : Below w.heap.size w X) => right_any A c l X ((hA.below h).more h.size (Nat.le_refl _))
  rw [hl, hrt] at hR
  have hM := fun (X : World) (h : Below w.heap.size w X) => may_any p X ((hpr.below h).more h.size (Nat.le_refl _))
  rw [hmt] at hM
  have HR := Lib.hid hR
  have HM := Lib.hid hM
  obtain ⟨b, off, rfl, hb, _, hc⟩ := hA.1 (by omega)
  have hlc := (hc (n - 1) (by omega)).1
  obtain ⟨v, hv⟩ : ∃ v, (l.getD (n - 1) zeroP).id = v := ⟨_, rfl⟩
  rw [hv] at hlc hlast
  have HLC := Lib.hid hlc
  have hn0 : (0 : Int) < (n : Int) := by omega
  have hj0 : (0 : Int) ≤ (n : Int) - 1 := by omega
  have hj1 : (n : Int) - 1 < (n : Int) := by omega
  have hjn : ((n : Int) - 1).toNat = n - 1 := by omega
  clear hlc hc hv
  have hfs : ∀ p ∈ l, p.fs.length ≤ 256 := fun p hp => (hr.2.1 p hp).2.1
  have hn16 : n ≤ 16 := by have := hr.1; omega
  have hflat : (flat 0 l).length ≤ 4096 := by have := flat_length_le 0 l hfs; omega
  have hp256 := hp.2.1
  have HA := Lib.hid hA
  have HFS := Lib.hid hfs
  have HL := Lib.hid hl
  have HFL := Lib.hid hflat
  have HPR := Lib.hid hpr
  have HPC := Lib.hid hpc
  clear hfs hflat hR hM hA hr hrt hl hmt hpr hp hpc
  obtain ⟨pid, pfs, pA, pc⟩ := p
  unfold ptV at *
  dsimp only at *
  refine (callsIn_wide (n := 10)).1 ?_
  refine callsIn_of_wp_marks Try.func13 rfl trivial ?_ rfl
  refine wpIn_wide.2 ?_
  simp only [Try.ntmps13, List.size_toArray, List.length_cons, List.length_nil, Nat.reduceAdd, Nat.reduceSub, Array.replicate_succ, Array.replicate_zero, List.push_toArray, List.append_toArray, List.nil_append, List.cons_append]
  go_wp2_with (fail)
  obtain ⟨WA, hWA⟩ : ∃ WA, WA = ((w.alloc (Obj.cells #[.int .u64 pid, .slice pA pfs.length pc] 26)).alloc (Obj.cells #[.slice none 0 0] 22)).alloc (Obj.cells #[.int .i64 0] 30) := ⟨_, rfl⟩
  have bP : BoxP WA w.heap.size ⟨pid, pfs, pA, pc⟩ := by
    rw [hWA]
    exact ((BoxP.new w ⟨pid, pfs, pA, pc⟩).grown (World.grownBy_alloc _ (Obj.cells #[.slice none 0 0] 22) none) (by simp)).grown (World.grownBy_alloc _ (Obj.cells #[.int .i64 0] 30) none) (by simp)
  obtain ⟨x0, x1⟩ := bP.cells
  dsimp only at x0 x1
  have b4 : Boxed WA (w.heap.size + 1) 22 (.slice none 0 0) := by
    rw [hWA]
    simpa using (Boxed.new (w.alloc (Obj.cells #[.int .u64 pid, .slice pA pfs.length pc] 26)) 22 (.slice none 0 0)).alloc (Obj.cells #[.int .i64 0] 30)
  have b5 : Boxed WA (w.heap.size + 1 + 1) 30 (.int .i64 0) := by
    rw [hWA]
    simpa using Boxed.new ((w.alloc (Obj.cells #[.int .u64 pid, .slice pA pfs.length pc] 26)).alloc (Obj.cells #[.slice none 0 0] 22)) 30 (.int .i64 0)
  have hbA : Below w.heap.size w WA := by rw [hWA]; exact bl_alloc (bl_alloc (bl_alloc (Below.refl _ _) _) _) _
  have hsA : WA.heap.size = w.heap.size + 3 := by rw [hWA]; simp
  rw [← hWA]
  clear hWA
  have HX : Hid (∀ X : Ext WA, Calls Try.prog 16 #[.slice (some ⟨b, off, none⟩) n c] X.val fun e w' => e = .returned (.bool true) ∧ Below X.val.heap.size X.val w') := Lib.hid fun X => HR.out X.val (hbA.trans (X.bl.mono (by omega)))
  have HY : Hid (∀ X : Ext WA, Calls Try.prog 29 #[.agg #[.int .u64 pid, .slice pA pfs.length pc]] X.val fun e w' => e = .returned (.bool true) ∧ Below X.val.heap.size X.val w') := Lib.hid fun X => HM.out X.val (hbA.trans (X.bl.mono (by omega)))
  have hlc := (hbA.cell (p := ⟨b, off + (n - 1) * 2, none⟩) hb).trans HLC.out
  have H0 : Hid (decide ((0 : Int) < (n : Int)) = true) := dec_t hn0
  have H0n : Hid (decide (0 < n) = true) := dec_t (by omega)
  have H1 : Hid (decide (pid ≤ v) = false) := dec_f (by omega)
  have e2 := ext_cell hlc
  have e0 := ext_cell x0
  have e1 := ext_cell x1
  have B4 := Lib.hid b4
  have B5 := Lib.hid b5
  have BP := Lib.hid bP
  have HBA := Lib.hid hbA
  clear b4 b5 hbA bP
  refine wp_region_ext (by kernel_rfl) (by kernel_rfl) ?_
  repeat (first | rw [H0.out] | rw [H0n.out] | rw [H1.out] | go_big_quiet_step (first | (go_at_call 16; exact ext_calls (HX.out _)) | (go_at_call 29; exact ext_calls (HY.out _))))
  refine wpQuiet_nil ?_
  rintro w2 ⟨⟨_, hb2⟩, rfl⟩
  have hs2 := hb2.size
  have B4 : Hid (Boxed w2 (w.heap.size + 1) 22 (.slice none 0 0)) := Lib.hid ((hb2.block _ (by omega)).trans B4.out)
  have B5 : Hid (Boxed w2 (w.heap.size + 1 + 1) 30 (.int .i64 0)) := Lib.hid ((hb2.block _ (by omega)).trans B5.out)
  have BP : Hid (BoxP w2 w.heap.size ⟨pid, pfs, pA, pc⟩) := Lib.hid (BP.out.kw hb2 (by omega))
  have HB2 := Lib.hid (HBA.out.trans (hb2.mono (by omega)))
  clear hb2 e0 e1 x0 x1 e2
  go_wp2_with (go_at_call 30; refine (callsIn_wide.1 (files_in Fence.wide 5 trivial rfl _ _ _ _)).mono ?_; rintro e w' ⟨rfl, rfl⟩)
  have hfsl := HFS.out
  have hflat := HFL.out
  have hlen := HL.out
  have bS := Boxed.new w2 22 (.slice (some ⟨b, off, none⟩) n c)
  have hbW : Below w2.heap.size w2 (w2.alloc (Obj.cells #[Value.slice (some ⟨b, off, none⟩) n c] 22)) := bl_alloc (Below.refl _ _) _
  have hBL : Below w.heap.size w (w2.alloc (Obj.cells #[Value.slice (some ⟨b, off, none⟩) n c] 22)) := HB2.out.trans (hbW.mono (by omega))
  have b4 : Boxed (w2.alloc (Obj.cells #[Value.slice (some ⟨b, off, none⟩) n c] 22)) (w.heap.size + 1) 22 (.slice none 0 0) := B4.out.alloc _
  have b5 : Boxed (w2.alloc (Obj.cells #[Value.slice (some ⟨b, off, none⟩) n c] 22)) (w.heap.size + 1 + 1) 30 (.int .i64 0) := B5.out.alloc _
  have bP : BoxP (w2.alloc (Obj.cells #[Value.slice (some ⟨b, off, none⟩) n c] 22)) w.heap.size ⟨pid, pfs, pA, pc⟩ := BP.out.kw hbW (by omega)
  have hsz : (w2.alloc (Obj.cells #[Value.slice (some ⟨b, off, none⟩) n c] 22)).heap.size = w2.heap.size + 1 := by simp
  generalize (w2.alloc (Obj.cells #[Value.slice (some ⟨b, off, none⟩) n c] 22)) = WL at *
  have hPL : RdP WL w.heap.size (some ⟨b, off, none⟩) l := HA.out.below hBL
  refine (wpIn_wide (n := 10)).1 ?_
  refine wpIn_rangeFunc_ownH rfl (by omega) (gf := 44) (lb := #[.pointer (some ⟨w2.heap.size, 0, none⟩)]) rfl trivial (enters_of Try.func44 (by kernel_rfl) rfl)
    (files_stops Fence.wide (10 - 1) trivial rfl (by omega) w2.heap.size w.heap.size (some ⟨b, off, none⟩) c l (by omega) (fun p hp => by have := hfsl p hp; omega) WL (by omega) (by omega) (by rw [hlen]; exact bS.cell) hPL) belowK_t (belowK_b (by omega)) (Below.refl _ _) (fun _ => rfl)
    (fun pre W => ((((¬ clashL (pre.map Prod.snd) pfs) ∧ BoxP W w.heap.size ⟨pid, pfs, pA, pc⟩) ∧ Boxed W (w.heap.size + 1) 22 (.slice none 0 0)) ∧ Boxed W (w.heap.size + 1 + 1) 30 (.int .i64 0)) ∧ Below w.heap.size w W)
    (fun cd pre W => (((cd = .ret ∧ clashL (pre.map Prod.snd) pfs) ∧ Boxed W (w.heap.size + 1) 22 (.slice none 0 0)) ∧ Boxed W (w.heap.size + 1 + 1) 30 (.int .i64 5)) ∧ Below w.heap.size w W)
    (OwnFrom.and (OwnFrom.and (OwnFrom.and (OwnFrom.and (ownFrom_pure _ _) (fun s' X Y row hs hg hr => hs.own hg (fun r e => (hr r e).2))) (Own.from (boxed_own _ _ _) _)) (Own.from (boxed_own _ _ _) _)) (ownFrom_below (Nat.le_refl _) (by omega)))
    (fun cd => OwnFrom.and (OwnFrom.and (OwnFrom.and (ownFrom_pure _ _) (Own.from (boxed_own _ _ _) _)) (Own.from (boxed_own _ _ _) _)) (ownFrom_below (Nat.le_refl _) (by omega)))
    ⟨⟨⟨⟨by simp [clashL], bP⟩, b4⟩, b5⟩, hBL⟩
    (fun x a' W => ∃ Bx, w.heap.size + 1 + 1 < Bx ∧ BoxS W Bx x.2 ∧ a' = { tmps := #[.slice (some ⟨b, off, none⟩) n c, .agg #[.int .u64 pid, .slice pA pfs.length pc], undef, .pointer (some ⟨w.heap.size, 0, none⟩), .pointer (some ⟨w.heap.size + 1, 0, none⟩), .pointer (some ⟨w.heap.size + 1 + 1, 0, none⟩), undef, .pointer (some ⟨Bx, 0, none⟩), undef, undef, .slice (some ⟨b, off, none⟩) n c, .bool true, .bool false, .bool false, .agg #[.int .u64 pid, .slice pA pfs.length pc], .bool true, .bool false, .bool false, .bool false, .slice (some ⟨b, off, none⟩) n c, .int .i64 (n : Int), .bool true, .bool true, .slice (some ⟨b, off, none⟩) n c, .slice (some ⟨b, off, none⟩) n c, .int .i64 (n : Int), .int .i64 ((n : Int) - 1), .pointer (some ⟨b, off + (n - 1) * 2, none⟩), .pointer (some ⟨b, off + (n - 1) * 2, none⟩), .int .u64 v, .pointer (some ⟨w.heap.size, 0, none⟩), .int .u64 pid, .bool false, .bool false, .bool false, .slice (some ⟨b, off, none⟩) n c, .func (.func 44) #[] #[.pointer (some ⟨w2.heap.size, 0, none⟩)], .int .i64 (x.1 : Int), shV x.2, undef, undef, undef, undef, undef, undef, undef, undef, undef, undef, undef, undef, undef, undef, undef, undef, undef, undef, undef, undef, undef, undef, undef, undef, undef, undef, undef], defers := [] })
    (fun x a' _ X Y row hs hg hr => by obtain ⟨Bx, e1, e2, e3⟩ := hs; exact ⟨Bx, e1, e2.own hg (fun r e => (hr r e).2), e3⟩)
    ?assign ?body ?done ?stop
  case assign =>
    rintro lp pre x W K ⟨⟨⟨⟨k1, k2⟩, k3⟩, k4⟩, h5⟩ hK
    simp only [encN, shV]
    gi_wp2
    exact hK _ _ ((KeepsOthers.alloc _ _).from _) ((Below.refl _ W).alloc h5.size _) ⟨⟨⟨⟨k1, k2.grown (World.grownBy_alloc _ _ none) (by simp)⟩, k3.alloc _⟩, k4.alloc _⟩, h5.alloc h5.size _⟩ ⟨W.heap.size, k4.lt, BoxS.new W x.2, rfl⟩
  case body =>
    rintro lp pre x a' W hlp ⟨r, hr⟩ ⟨⟨⟨⟨k1, k2⟩, k3⟩, k4⟩, h5⟩ ⟨Bx, hBx, hxb, rfl⟩ hpl
    obtain ⟨c0, c1⟩ := k2.cells
    dsimp only at c1
    have hsW := h5.size
    have hl2 := k2.lt
    have hl3 := k3.lt
    have hl4 := k4.lt
    have hlX := hxb.lt
    have hsn : (pre ++ [x]).map Prod.snd = pre.map Prod.snd ++ [x.2] := by simp
    obtain ⟨xi, f⟩ := x
    dsimp only at *
    have J1 := Lib.hid k1
    have J2 := Lib.hid k2
    have J3 := Lib.hid k3
    have J4 := Lib.hid k4
    have H5 := Lib.hid h5
    have HX := Lib.hid hxb
    have HSN := Lib.hid hsn
    obtain ⟨pm, hpm⟩ : ∃ pm, pfs.length = pm := ⟨_, rfl⟩
    rw [hpm] at c1
    have HPM := Lib.hid hpm
    have hp256' : pm ≤ 256 := by omega
    clear k1 k2 k3 k4 h5 hsn hxb hr hpm hlen hflat hfsl bS hPL bP b4 b5 hp256
    gi_wp2
    gi_loopw [42] (fun vk wq => ∃ k : Nat, k ≤ pm ∧ vk = .int .i64 k ∧ (∀ g ∈ pfs.take k, f.nm = g.nm → f = g) ∧ Below W.heap.size W wq) (fun k _ => pm - (intOf k).toNat)
    case atStart => exact ⟨0, Nat.zero_le _, rfl, by simp, Below.refl _ _⟩
    case round =>
      obtain ⟨k, hkm, rfl, hno, hbl⟩ := hrel
      have HNO := Lib.hid hno
      have HBL := Lib.hid hbl
      have hwk := hbl.size
      clear hno
      by_cases hk : k < pm
      · have hk0 : (0 : Int) ≤ (k : Int) := by omega
        have hk1 : (k : Int) < (pm : Int) := by omega
        obtain ⟨bs, offs, rfl, hbs, _, hcs⟩ := HPR.out (by rw [HPM.out]; omega)
        obtain ⟨f0, f1, f2, f3⟩ := hcs k (by rw [HPM.out]; exact hk)
        have hsu := take_snocS (l := pfs) (i := k) (by rw [HPM.out]; exact hk)
        obtain ⟨g, hg⟩ : ∃ g, pfs.getD k zeroS = g := ⟨_, rfl⟩
        have hgm : g ∈ pfs := by rw [← hg]; exact getS_mem (by rw [HPM.out]; exact hk)
        rw [hg] at f0 f1 f2 f3 hsu
        have hbq := H5.out.trans (hbl.mono hsW)
        have f0 := (hbq.cell (p := ⟨bs, offs + k * 4, none⟩) hbs).trans f0
        have f1 := (hbq.cell (p := ⟨bs, offs + k * 4 + 1, none⟩) hbs).trans f1
        have f2 := (hbq.cell (p := ⟨bs, offs + k * 4 + 2, none⟩) hbs).trans f2
        have f3 := (hbq.cell (p := ⟨bs, offs + k * 4 + 3, none⟩) hbs).trans f3
        have hbk : bs < wr.heap.size := by omega
        obtain ⟨y0, y1, y2, y3⟩ := (HX.out.kw hbl hlX).cells
        have hlX' : Bx < wr.heap.size := by omega
        have J3' := Lib.hid (show Boxed wr (w.heap.size + 1) 22 (.slice none 0 0) from (hbl.block _ hl3).trans J3.out)
        have J4' := Lib.hid (show Boxed wr (w.heap.size + 1 + 1) 30 (.int .i64 0) from (hbl.block _ hl4).trans J4.out)
        have HSU := Lib.hid hsu
        have HGM := Lib.hid hgm
        have HBQ := Lib.hid hbq
        have hl3' : w.heap.size + 1 < wr.heap.size := by omega
        have hl4' : w.heap.size + 1 + 1 < wr.heap.size := by omega
        clear hcs hg hsu hgm hbq hbl
        have hgo : (f.nm = g.nm → f = g) → Hid (∀ g ∈ pfs.take (k + 1), f.nm = g.nm → f = g) := fun h => Lib.hid (by
          rw [HSU.out]
          intro g' hg'
          rcases List.mem_append.1 hg' with h' | h'
          · exact HNO.out g' h'
          · rw [List.mem_singleton.1 h']
            exact h)
        by_cases hnm : f.nm = g.nm
        · by_cases hfg : f = g
          · have HV := hgo (fun _ => hfg)
            subst hfg
            clear hgo hnm
            have hbE := Lib.hid (HBL.out.alloc HBL.out.size (Obj.cells #[.int .u64 f.tb, .int .i64 f.sz, .int .u32 f.sm, .int .u64 f.nm] 36))
            gi_wp2
            go_roundw
            case rel => exact ⟨k + 1, by omega, by first | rfl | (push_cast; rfl) | go_num, HV.out, hbE.out⟩
            case measure => simp [intOf]; omega
          · have HV : Hid (clashL ((pre ++ [(xi, f)]).map Prod.snd) pfs) := Lib.hid (by rw [HSN.out]; exact ⟨f, by simp, g, HGM.out, hnm, hfg⟩)
            have hpr := sh_parts hfg hnm
            have hbE := Lib.hid (HBL.out.alloc HBL.out.size (Obj.cells #[.int .u64 g.tb, .int .i64 g.sz, .int .u32 g.sm, .int .u64 g.nm] 36))
            have q3 := J3'.out.cell
            have r3 := J3'.out.frozen
            have q4 := J4'.out.cell
            have r4 := J4'.out.frozen
            clear hgo hfg
            obtain ⟨gt, gs, gm, gn, g5, g6, g7, g8⟩ := g
            obtain ⟨ft, fs, fm, fn, f5, f6, f7, f8⟩ := f
            dsimp only at *
            subst hnm
            rcases hpr with hne | ⟨rfl, hne⟩ | ⟨rfl, rfl, hne⟩
            · gi_wp2
              exact ⟨((keepsFrom_below HBL.out).trans ((KeepsOthers.setCell _ _ _).from _)).trans (((KeepsOthers.setCell _ _ _).from _).trans ((KeepsOthers.alloc _ _).from _)),
                ⟨⟨⟨⟨rfl, HV.out⟩, ((J3'.out.set (.slice none 0 0)).other (B' := w.heap.size + 1 + 1) (by omega) (.int .i64 5)).alloc _⟩, (Boxed.set _ (J4'.out.other (B' := w.heap.size + 1) (by omega) (.slice none 0 0))).alloc _⟩,
                  ((HBQ.out.setCell (p := ⟨w.heap.size + 1, 0, none⟩) (by dsimp only; omega) _).setCell (p := ⟨w.heap.size + 1 + 1, 0, none⟩) (by dsimp only; omega) _).alloc (by simpa [World.setCell] using HBQ.out.size) _⟩⟩
            · gi_wp2
              exact ⟨((keepsFrom_below HBL.out).trans ((KeepsOthers.setCell _ _ _).from _)).trans (((KeepsOthers.setCell _ _ _).from _).trans ((KeepsOthers.alloc _ _).from _)),
                ⟨⟨⟨⟨rfl, HV.out⟩, ((J3'.out.set (.slice none 0 0)).other (B' := w.heap.size + 1 + 1) (by omega) (.int .i64 5)).alloc _⟩, (Boxed.set _ (J4'.out.other (B' := w.heap.size + 1) (by omega) (.slice none 0 0))).alloc _⟩,
                  ((HBQ.out.setCell (p := ⟨w.heap.size + 1, 0, none⟩) (by dsimp only; omega) _).setCell (p := ⟨w.heap.size + 1 + 1, 0, none⟩) (by dsimp only; omega) _).alloc (by simpa [World.setCell] using HBQ.out.size) _⟩⟩
            · gi_wp2
              exact ⟨((keepsFrom_below HBL.out).trans ((KeepsOthers.setCell _ _ _).from _)).trans (((KeepsOthers.setCell _ _ _).from _).trans ((KeepsOthers.alloc _ _).from _)),
                ⟨⟨⟨⟨rfl, HV.out⟩, ((J3'.out.set (.slice none 0 0)).other (B' := w.heap.size + 1 + 1) (by omega) (.int .i64 5)).alloc _⟩, (Boxed.set _ (J4'.out.other (B' := w.heap.size + 1) (by omega) (.slice none 0 0))).alloc _⟩,
                  ((HBQ.out.setCell (p := ⟨w.heap.size + 1, 0, none⟩) (by dsimp only; omega) _).setCell (p := ⟨w.heap.size + 1 + 1, 0, none⟩) (by dsimp only; omega) _).alloc (by simpa [World.setCell] using HBQ.out.size) _⟩⟩
        · have HV := hgo (fun e => absurd e hnm)
          clear hgo
          have hbE := Lib.hid (HBL.out.alloc HBL.out.size (Obj.cells #[.int .u64 g.tb, .int .i64 g.sz, .int .u32 g.sm, .int .u64 g.nm] 36))
          gi_wp2
          go_roundw
          case rel => exact ⟨k + 1, by omega, by first | rfl | (push_cast; rfl) | go_num, HV.out, hbE.out⟩
          case measure => simp [intOf]; omega
      · have hke : k = pm := by omega
        subst hke
        have hirr : ¬ (k : Int) < (k : Int) := by omega
        have HV : Hid (¬ clashL ((pre ++ [(xi, f)]).map Prod.snd) pfs) := Lib.hid (by
          rw [HSN.out]
          rintro ⟨f', hf', g, hg, e1, e2⟩
          rcases List.mem_append.1 hf' with h | h
          · exact J1.out ⟨f', h, g, hg, e1, e2⟩
          · rw [List.mem_singleton.1 h] at e1 e2
            exact e2 (HNO.out g (by rw [List.take_of_length_le (by rw [HPM.out]; exact Nat.le_refl _)]; exact hg) e1))
        clear hbl
        gi_wp2
        exact ⟨keepsFrom_below HBL.out, HBL.out.mono hsW, ⟨⟨⟨⟨HV.out, J2.out.kw HBL.out hl2⟩, (HBL.out.block _ hl3).trans J3.out⟩, (HBL.out.block _ hl4).trans J4.out⟩, H5.out.trans (HBL.out.mono hsW)⟩⟩
  case done =>
    rintro D ys W hD rfl ⟨⟨⟨⟨k1, k2⟩, k3⟩, k4⟩, h5⟩ hK
    have HC : Hid (¬ clashL (allF l) pfs) := Lib.hid k1
    obtain ⟨x0, x1⟩ := k2.cells
    dsimp only at x0 x1
    have c4 := k3.cell
    have f4 := k3.frozen
    have c5 := k4.cell
    have f5 := k4.frozen
    have J3 := Lib.hid k3
    have J4 := Lib.hid k4
    have H5 := Lib.hid h5
    have HK := Lib.hid hK
    have hl2 := k2.lt
    have hl3 := k3.lt
    have hl4 := k4.lt
    have hDl : D < W.heap.size := (Array.getElem?_eq_some_iff.1 hK).1
    have hsW := h5.size
    clear k1 k2 k3 k4 h5 hK bS hPL bP b4 b5 hlen hflat hfsl
    by_cases h16 : n = 16
    · have HG : Hid (addG l ⟨pid, pfs, pA, pc⟩ = 3) := Lib.hid (by unfold addG; rw [if_neg HC.out, if_pos (by rw [HL.out]; exact h16)])
      subst h16
      go_wp2_with (fail)
      have q4 := (J3.out.set (.slice none 0 0)).other (B' := w.heap.size + 1 + 1) (by omega) (.int .i64 3)
      have q5 : Boxed ((W.setCell ⟨w.heap.size + 1, 0, none⟩ (.slice none 0 0)).setCell ⟨w.heap.size + 1 + 1, 0, none⟩ (.int .i64 3)) (w.heap.size + 1 + 1) 30 (.int .i64 3) := Boxed.set _ (J4.out.other (B' := w.heap.size + 1) (by omega) (.slice none 0 0))
      have hBE := Lib.hid ((H5.out.setCell (p := ⟨w.heap.size + 1, 0, none⟩) (by dsimp only; omega) (.slice none 0 0)).setCell (p := ⟨w.heap.size + 1 + 1, 0, none⟩) (by dsimp only; omega) (.int .i64 3))
      have hK6 : ((W.setCell ⟨w.heap.size + 1, 0, none⟩ (.slice none 0 0)).setCell ⟨w.heap.size + 1 + 1, 0, none⟩ (.int .i64 3)).heap[D]? = some (Obj.deferred (some [])) := (Below.heap_setCell _ _ _ _ (by dsimp only; omega)).trans ((Below.heap_setCell _ _ _ _ (by dsimp only; omega)).trans HK.out)
      generalize ((W.setCell ⟨w.heap.size + 1, 0, none⟩ (.slice none 0 0)).setCell ⟨w.heap.size + 1 + 1, 0, none⟩ (.int .i64 3)) = W5 at *
      refine ⟨by simp, .inl ⟨_, _, rfl, run_takeDeferred hK6, ?_⟩⟩
      have hgp := grownBy_putObj' W5 D (.deferred none)
      have hne : ∀ r, some D = some r → ∃ o : Obj, W5.heap[r]? = some o ∧ o.isCells = false := fun r e => by cases e; exact ⟨_, hK6, rfl⟩
      have z4 := cell_kept (W := W5) q4.cell hgp hne
      have z5 := cell_kept (W := W5) q5.cell hgp hne
      refine ⟨.tuple #[.slice none 0 0, .int .i64 3], ?_, _, by rw [HG.out], fun _ => rfl, fun h => by rw [HG.out] at h; omega, hBE.out.trans (belowK_b (w := WL) (by omega) W5 D _ _ hD hK6 rfl rfl)⟩
      simp [results, Try.f13, go_sem, z4, z5]
    · have HG : Hid (addG l ⟨pid, pfs, pA, pc⟩ = 0) := Lib.hid (by unfold addG; rw [if_neg HC.out, if_neg (by rw [HL.out]; exact h16)])
      have hne16 : ¬ (n : Int) = 16 := by omega
      have hneb : ((n : Int) == 16) = false := by simpa using hne16
      have C2 : ∀ z, Below W.heap.size W z → z.cell? ⟨w.heap.size, 0, none⟩ = some (.int .u64 pid) ∧ z.cell? ⟨w.heap.size, 1, none⟩ = some (.slice pA pfs.length pc) := fun z hz => ⟨(hz.cell hl2).trans x0, (hz.cell hl2).trans x1⟩
      have RA : ∀ z, Below W.heap.size W z → RdP z w.heap.size (some ⟨b, off, none⟩) l := fun z hz => HA.out.below (H5.out.trans (hz.mono hsW))
      have RF : ∀ z, Below W.heap.size W z → RdS z w.heap.size pA pfs := fun z hz => HPR.out.below (H5.out.trans (hz.mono hsW))
      have hn6 : n ≤ 1000000 := by omega
      have hn7 : n + 1 ≤ 1000001 := by omega
      have hn7' : n + 1 ≤ 1000000 := by omega
      have hL1 : (l ++ [(⟨pid, pfs, pA, pc⟩ : Pt)]).length = n + 1 := by rw [List.length_append, HL.out]; rfl
      have hF7 : ∀ p ∈ l ++ [(⟨pid, pfs, pA, pc⟩ : Pt)], p.fs.length ≤ 1000000 := fun p hp => by
        rcases List.mem_append.1 hp with h | h
        · have := HFS.out p h; omega
        · rw [List.mem_singleton.1 h]; dsimp only; omega
      have RF2 : ∀ z, Below W.heap.size W z → ∀ p ∈ l ++ [(⟨pid, pfs, pA, pc⟩ : Pt)], RdS z z.heap.size p.A p.fs ∧ p.fs.length ≤ p.c := fun z hz p hp => by
        have hzs := hz.size
        rcases List.mem_append.1 hp with h | h
        · exact ⟨((RA z hz).2 p h).1.more (by omega) (Nat.le_refl _), ((RA z hz).2 p h).2⟩
        · rw [List.mem_singleton.1 h]
          exact ⟨(RF z hz).more (by omega) (Nat.le_refl _), HPC.out⟩
      have HBQ : Hid (Below W.heap.size W W.drew) := Lib.hid (Below.refl _ _).drew
      have HBP : Hid (Below W.heap.size W (W.alloc (Obj.cells #[.int .u64 pid, .slice pA pfs.length pc] 26)).drew) := Lib.hid ((Below.refl W.heap.size W).alloc (Nat.le_refl _) _).drew
      have hszA : W.heap.size < (W.alloc (Obj.cells #[.int .u64 pid, .slice pA pfs.length pc] 26)).drew.heap.size := size_new _ _
      obtain ⟨cA0, cA1⟩ : (W.alloc (Obj.cells #[.int .u64 pid, .slice pA pfs.length pc] 26)).drew.cell? ⟨W.heap.size, 0, none⟩ = some (.int .u64 pid) ∧ (W.alloc (Obj.cells #[.int .u64 pid, .slice pA pfs.length pc] 26)).drew.cell? ⟨W.heap.size, 1, none⟩ = some (.slice pA pfs.length pc) := two_new W _ _ _
      clear h16
      go_wp2_with (fail)
      go_region_held3 (fun z => z.cell? ⟨w.heap.size, 0, none⟩ = some (.int .u64 pid) ∧ z.cell? ⟨w.heap.size, 1, none⟩ = some (.slice pA pfs.length pc)) (first | exact ⟨x0, x1⟩ | exact ⟨(setc_ne _ _ _ _ _ _ (by omega)).trans s0, (setc_ne _ _ _ _ _ _ (by omega)).trans s1⟩ | exact ⟨(setc_ne _ _ _ _ _ _ (by omega)).trans ((setc_ne _ _ _ _ _ _ (by omega)).trans s0), (setc_ne _ _ _ _ _ _ (by omega)).trans ((setc_ne _ _ _ _ _ _ (by omega)).trans s1)⟩ | (refine C2 _ ?_; repeat (first | exact Below.refl _ _ | exact HB5.out | exact HB4.out | exact HB3.out | refine Below.drew ?_ | refine Below.alloc ?_ (by first | exact HB5.out.size | exact HB4.out.size | exact HB3.out.size | omega | (simp; omega) | (simp; done)) _)))
        (first
        | (go_at_call 32; refine (cloneP_any (some ⟨b, off, none⟩) n c w.heap.size l _ HL.out ?_ hn6).mono ?_; exact RA _ HBP.out; rintro e w3 ⟨v3, rfl, hown3, hb3⟩; have HB3 : Hid (Below W.heap.size W w3) := Lib.hid (HBP.out.trans (hb3.mono HBP.out.size)); have HO3 : Hid (w3.ownsRow W.heap.size 26 2 v3 n (pcells l)) := Lib.hid (own_le hown3 HBP.out.size); have d0 := (hb3.cell (p := ⟨W.heap.size, 0, none⟩) hszA).trans cA0; have d1 := (hb3.cell (p := ⟨W.heap.size, 1, none⟩) hszA).trans cA1; have hlw3 : W.heap.size < w3.heap.size := Nat.lt_of_lt_of_le hszA hb3.size)
        | (go_at_call 32; refine (cloneP_any (some ⟨b, off, none⟩) n c w.heap.size l _ HL.out ?_ hn6).mono ?_; exact RA _ HBQ.out; rintro e w3 ⟨v3, rfl, hown3, hb3⟩; have HB3 : Hid (Below W.heap.size W w3) := Lib.hid (HBQ.out.trans (hb3.mono HBQ.out.size)); have HO3 : Hid (w3.ownsRow W.heap.size 26 2 v3 n (pcells l)) := Lib.hid (own_le hown3 HBQ.out.size))
        | (refine step_append_p _ rfl _ _ rfl W.heap.size n v3 l rfl HO3.out ⟨W.heap.size, 0, none⟩ 1 ⟨pid, pfs, pA, pc⟩ rfl ⟨d0, d1⟩ hn7 HB3.out.size ?_; intro v4 w4 hown4 hg4; have HO4 := Lib.hid hown4; have HB4 : Hid (Below W.heap.size W w4) := Lib.hid (HB3.out.grown hg4 HB3.out.size (own_ge HO3.out)); clear hown4 hg4)
        | (refine step_append_p _ rfl _ _ rfl W.heap.size n v3 l rfl (own_new HO3.out (Below.alloc (Below.refl _ _) (Nat.le_refl _) _)) ⟨w3.heap.size, 0, none⟩ 1 ⟨pid, pfs, pA, pc⟩ rfl (two_new _ _ _ _) hn7 (Nat.le_trans HB3.out.size (Nat.le_of_lt (size_new _ _))) ?_; intro v4 w4 hown4 hg4; have HO4 := Lib.hid hown4; have HB4 : Hid (Below W.heap.size W w4) := Lib.hid (((HB3.out.alloc HB3.out.size _).grown hg4 (Nat.le_trans HB3.out.size (Nat.le_of_lt (size_new _ _))) (own_ge HO3.out))); clear hown4 hg4)
        | (go_at_call 31; obtain ⟨A4, c4', rfl, hR4, _⟩ := own_rp HO4.out hL1 (RF2 _ HB4.out); refine (own_any A4 c4' (n + 1) (l ++ [⟨pid, pfs, pA, pc⟩]) _ hL1 hR4 hn7' hF7).mono ?_; rintro e w5 ⟨A5, c5', l5, rfl, hsm, hop, hb5⟩; have HSM := Lib.hid hsm; have HOP := Lib.hid (hop.le HB4.out.size); have HB5 : Hid (Below W.heap.size W w5) := Lib.hid (HB4.out.trans (hb5.mono HB4.out.size)); have J3w : Boxed w5 (w.heap.size + 1) 22 (.slice none 0 0) := (HB5.out.block _ hl3).trans J3.out; have J4w : Boxed w5 (w.heap.size + 1 + 1) 30 (.int .i64 0) := (HB5.out.block _ hl4).trans J4.out; have q4 := J3w.cell; have g4 := J3w.frozen; have q5 := J4w.cell; have g5 := J4w.frozen; obtain ⟨s0, s1⟩ := C2 _ HB5.out; have hs3w := J3w.lt; have hs4w := J4w.lt; clear hsm hop hb5)
        )
      all_goals
        have hKw := (HB5.out.block D hDl).trans HK.out
        have HJ3 := Lib.hid J3w
        have HJ4 := Lib.hid J4w
        have HBW := Lib.hid (H5.out.trans (HB5.out.mono hsW))
        have HKW := Lib.hid hKw
        clear J3w J4w hKw
        go_wp2_with (fail)
        have q4' := (HJ3.out.set (.slice A5 (n + 1) c5')).other (B' := w.heap.size + 1 + 1) (by omega) (.int .i64 0)
        have q5' : Boxed ((w5.setCell ⟨w.heap.size + 1, 0, none⟩ (.slice A5 (n + 1) c5')).setCell ⟨w.heap.size + 1 + 1, 0, none⟩ (.int .i64 0)) (w.heap.size + 1 + 1) 30 (.int .i64 0) := Boxed.set _ (HJ4.out.other (B' := w.heap.size + 1) (by omega) (.slice A5 (n + 1) c5'))
        have hBE := Lib.hid ((HBW.out.setCell (p := ⟨w.heap.size + 1, 0, none⟩) (by dsimp only; omega) (.slice A5 (n + 1) c5')).setCell (p := ⟨w.heap.size + 1 + 1, 0, none⟩) (by dsimp only; omega) (.int .i64 0))
        have hK6 : ((w5.setCell ⟨w.heap.size + 1, 0, none⟩ (.slice A5 (n + 1) c5')).setCell ⟨w.heap.size + 1 + 1, 0, none⟩ (.int .i64 0)).heap[D]? = some (Obj.deferred (some [])) := (Below.heap_setCell _ _ _ _ (by dsimp only; omega)).trans ((Below.heap_setCell _ _ _ _ (by dsimp only; omega)).trans HKW.out)
        have hO6 : OwnP ((w5.setCell ⟨w.heap.size + 1, 0, none⟩ (.slice A5 (n + 1) c5')).setCell ⟨w.heap.size + 1 + 1, 0, none⟩ (.int .i64 0)) W.heap.size A5 l5 :=
          HOP.out.kw (S := fun b => b < W.heap.size) (Kw.setCell (Kw.setCell (Kw.refl _ _) (p := ⟨w.heap.size + 1, 0, none⟩) hl3 _) (p := ⟨w.heap.size + 1 + 1, 0, none⟩) hl4 _) (fun b hb => by omega)
        generalize ((w5.setCell ⟨w.heap.size + 1, 0, none⟩ (.slice A5 (n + 1) c5')).setCell ⟨w.heap.size + 1 + 1, 0, none⟩ (.int .i64 0)) = W6 at *
        refine ⟨by simp, .inl ⟨_, _, rfl, run_takeDeferred hK6, ?_⟩⟩
        have hgp := grownBy_putObj' W6 D (.deferred none)
        have hne : ∀ r, some D = some r → ∃ o : Obj, W6.heap[r]? = some o ∧ o.isCells = false := fun r e => by cases e; exact ⟨_, hK6, rfl⟩
        have z4 := cell_kept (W := W6) q4'.cell hgp hne
        have z5 := cell_kept (W := W6) q5'.cell hgp hne
        have hO7 := (hO6.kw (S := fun b => b < W.heap.size) ((Kw.refl _ _).grown hgp (fun k e => by cases e; exact hDl)) (fun b hb => by omega)).le hsW
        refine ⟨.tuple #[.slice A5 (n + 1) c5', .int .i64 0], ?_, _, by rw [HG.out], fun h => absurd HG.out h, fun _ => ⟨A5, c5', l5, rfl, HSM.out, hO7⟩, hBE.out.trans (belowK_b (w := WL) (by omega) W6 D _ _ hD hK6 rfl rfl)⟩
        simp [results, Try.f13, go_sem, z4, z5]
  case stop =>
    rintro D cd pre W hD hpre ⟨⟨⟨⟨rfl, h1⟩, h3⟩, h4⟩, h5⟩ hK
    have HG : Hid (addG l ⟨pid, pfs, pA, pc⟩ = 5) := Lib.hid (by
      obtain ⟨f, hf, g, hg, e1, e2⟩ := h1
      unfold addG
      rw [if_pos ⟨f, (hpre.map _).subset hf, g, hg, e1, e2⟩])
    have J3 := Lib.hid h3
    have J4 := Lib.hid h4
    have H5 := Lib.hid h5
    have HK := Lib.hid hK
    clear h1 h3 h4 h5 hK hlen hflat hfsl bS hPL bP b4 b5
    gi_wp2
    refine ⟨by simp, .inl ⟨_, _, rfl, run_takeDeferred HK.out, ?_⟩⟩
    have z4 := cell_kept J3.out.cell (grownBy_putObj' _ D (.deferred none)) (fun r e => by cases e; exact ⟨_, HK.out, rfl⟩)
    have z5 := cell_kept J4.out.cell (grownBy_putObj' _ D (.deferred none)) (fun r e => by cases e; exact ⟨_, HK.out, rfl⟩)
    refine ⟨.tuple #[.slice none 0 0, .int .i64 5], ?_, _, by rw [HG.out], fun _ => rfl, fun h => by rw [HG.out] at h; omega, H5.out.trans (belowK_b (w := WL) (by omega) W D _ _ hD HK.out rfl rfl)⟩
    simp [results, Try.f13, go_sem, z4, z5]
end Go.Proofs.Ytmalcekbhnkfgaa
