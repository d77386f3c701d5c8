/- Contract of shares.Known. Conditions: as each theorem states them. -/
import Derived.Test.YtmalcekbhnkfgaaA6
namespace Go.Proofs.Ytmalcekbhnkfgaa
open Go.RowKit Go.Maps Go.Shelf
set_option linter.unusedVariables false
set_option linter.unusedSimpArgs false
attribute [local go_sem] Oper.semAt_some

def isK (t s m : Int) (f : Sh) : Prop := f.tb = t ∧ f.sz = s ∧ f.sm = m
instance (t s m : Int) (f : Sh) : Decidable (isK t s m f) := by unfold isK; infer_instance
/-- The last one of them that is asked for. -/
def kn (t s m : Int) (l : List Sh) : Sh × Bool := l.foldl (fun a f => if isK t s m f then (f, true) else a) (zeroS, false)
theorem kn_yes {t s m : Int} {l : List Sh} {f : Sh} (h : isK t s m f) : kn t s m (l ++ [f]) = (f, true) := by simp [kn, h]
theorem kn_no {t s m : Int} {l : List Sh} {f : Sh} (h : ¬ isK t s m f) : kn t s m (l ++ [f]) = kn t s m l := by simp [kn, h]
theorem kn_nil (t s m : Int) : kn t s m [] = (zeroS, false) := rfl
theorem BoxS.frozens {W : World} {B : Nat} {f : Sh} (h : BoxS W B f) : W.frozen? ⟨B, 0, none⟩ = false ∧ W.frozen? ⟨B, 1, none⟩ = false ∧ W.frozen? ⟨B, 2, none⟩ = false ∧ W.frozen? ⟨B, 3, none⟩ = false := by
  have h' : W.heap[B]? = _ := h
  simp [World.frozen?, h']
theorem set_heap {W : World} {B i : Nat} {v : Value} {cs : Array Value} {t : TypeId} (h : W.heap[B]? = some (Obj.cells cs t)) : (W.setCell ⟨B, i, none⟩ v).heap[B]? = some (Obj.cells (cs.setIfInBounds i v) t) := by
  have hl := (Array.getElem?_eq_some_iff.1 h).1
  have h2 := (Array.getElem?_eq_some_iff.1 h).2
  simp only [World.setCell]
  rw [Array.getElem?_eq_getElem (by simpa using hl), Array.getElem_modify_self, h2]
  rfl
theorem BoxS.set4 {W : World} {B : Nat} {g : Sh} (h : BoxS W B g) (f : Sh) : BoxS ((((W.setCell ⟨B, 0, none⟩ (.int .u64 f.tb)).setCell ⟨B, 1, none⟩ (.int .i64 f.sz)).setCell ⟨B, 2, none⟩ (.int .u32 f.sm)).setCell ⟨B, 3, none⟩ (.int .u64 f.nm)) B f :=
  set_heap (set_heap (set_heap (set_heap h)))
theorem set4k (W : World) (B : Nat) (v0 v1 v2 v3 : Value) (k : Nat) (hk : k ≠ B) : ((((W.setCell ⟨B, 0, none⟩ v0).setCell ⟨B, 1, none⟩ v1).setCell ⟨B, 2, none⟩ v2).setCell ⟨B, 3, none⟩ v3).heap[k]? = W.heap[k]? := by
  rw [Below.heap_setCell _ _ _ _ hk, Below.heap_setCell _ _ _ _ hk, Below.heap_setCell _ _ _ _ hk, Below.heap_setCell _ _ _ _ hk]
theorem set5 (W : World) (B B' : Nat) (v0 v1 v2 v3 v4 : Value) (k : Nat) (hk : k ≠ B) (hk' : k ≠ B') : (((((W.setCell ⟨B, 0, none⟩ v0).setCell ⟨B, 1, none⟩ v1).setCell ⟨B, 2, none⟩ v2).setCell ⟨B, 3, none⟩ v3).setCell ⟨B', 0, none⟩ v4).heap[k]? = W.heap[k]? := by
  rw [Below.heap_setCell _ _ _ _ hk', set4k W B v0 v1 v2 v3 k hk]
set_option maxRecDepth 100000 in
set_option maxHeartbeats 4000000 in
theorem known_right (A : Option Addr) (n c : Nat) (l : List Pt) (t s m : Int) (w : World) (hl : l.length = n) (hA : RdP w w.heap.size A l) (hr : RightP l) :
    Calls Try.prog 22 #[.slice A n c, .int .u64 t, .int .i64 s, .int .u32 m] w fun e w' => e = .returned (.tuple #[shV (kn t s m (allF l)).1, .bool (kn t s m (allF l)).2]) ∧ Below w.heap.size w w' := by
  have hfs : ∀ p ∈ l, p.fs.length ≤ 256 := fun p hp => (hr.2.1 p hp).2.1
  have hn16 : n ≤ 16 := by have := hr.1; omega
  have hflat : (flat 0 l).length ≤ 4096 := by have := flat_length_le 0 l hfs; omega
  have hrt := rightB_t hr
  have hR := fun (w' : World) (h : Below w.heap.size w w') => right_any A c l w' ((hA.below h).more h.size (Nat.le_refl _))
  rw [hl, hrt] at hR
  have HR := Lib.hid hR
  have HA := Lib.hid hA
  have HFS := Lib.hid hfs
  have HLN := Lib.hid hl
  have HFL := Lib.hid hflat
  clear hfs hflat hrt hR hA hr hl
  refine (callsIn_wide (n := 10)).1 ?_
  refine callsIn_of_wp_marks Try.func22 rfl trivial ?_ rfl
  refine wpIn_wide.2 ?_
  simp only [Try.ntmps22, List.size_toArray, List.length_cons, List.length_nil, Nat.reduceAdd, Nat.reduceSub, Array.replicate_succ, Array.replicate_zero, List.push_toArray, List.append_toArray, List.nil_append, List.cons_append]
  go_wp2_with (fail)
  obtain ⟨WA, hWA⟩ : ∃ WA, WA = ((((w.alloc (Obj.cells #[.int .u64 t] 23)).alloc (Obj.cells #[.int .i64 s] 3)).alloc (Obj.cells #[.int .u32 m] 34)).alloc (Obj.cells #[.int .u64 0, .int .i64 0, .int .u32 0, .int .u64 0] 36)).alloc (Obj.cells #[.bool false] 4) := ⟨_, rfl⟩
  have b1 : Boxed WA w.heap.size 23 (.int .u64 t) := by rw [hWA]; exact ((((Boxed.new w 23 (.int .u64 t)).alloc _).alloc _).alloc _).alloc _
  have b2 : Boxed WA (w.heap.size + 1) 3 (.int .i64 s) := by rw [hWA]; simpa using (((Boxed.new (w.alloc (Obj.cells #[.int .u64 t] 23)) 3 (.int .i64 s)).alloc (Obj.cells #[.int .u32 m] 34)).alloc (Obj.cells #[.int .u64 0, .int .i64 0, .int .u32 0, .int .u64 0] 36)).alloc (Obj.cells #[.bool false] 4)
  have b3 : Boxed WA (w.heap.size + 1 + 1) 34 (.int .u32 m) := by rw [hWA]; simpa using ((Boxed.new ((w.alloc (Obj.cells #[.int .u64 t] 23)).alloc (Obj.cells #[.int .i64 s] 3)) 34 (.int .u32 m)).alloc (Obj.cells #[.int .u64 0, .int .i64 0, .int .u32 0, .int .u64 0] 36)).alloc (Obj.cells #[.bool false] 4)
  have b4 : BoxS WA (w.heap.size + 1 + 1 + 1) zeroS := by
    rw [hWA]
    have h := (BoxS.new (((w.alloc (Obj.cells #[.int .u64 t] 23)).alloc (Obj.cells #[.int .i64 s] 3)).alloc (Obj.cells #[.int .u32 m] 34)) zeroS).grown (World.grownBy_alloc _ (Obj.cells #[.bool false] 4) none) (by simp)
    simp only [World.size_alloc] at h
    exact h
  have b5 : Boxed WA (w.heap.size + 1 + 1 + 1 + 1) 4 (.bool false) := by rw [hWA]; simpa using Boxed.new ((((w.alloc (Obj.cells #[.int .u64 t] 23)).alloc (Obj.cells #[.int .i64 s] 3)).alloc (Obj.cells #[.int .u32 m] 34)).alloc (Obj.cells #[.int .u64 0, .int .i64 0, .int .u32 0, .int .u64 0] 36)) 4 (.bool false)
  have hbA : Below w.heap.size w WA := by rw [hWA]; exact bl_alloc (bl_alloc (bl_alloc (bl_alloc (bl_alloc (Below.refl _ _) _) _) _) _) _
  have hsA : WA.heap.size = w.heap.size + 5 := by rw [hWA]; simp
  rw [← hWA]
  clear hWA
  refine (HR.out _ hbA).mono ?_
  rintro e w2 ⟨rfl, hb2⟩
  have hs2 := hb2.size
  have b1 : Boxed w2 w.heap.size 23 (.int .u64 t) := (hb2.block _ (by omega)).trans b1
  have b2 : Boxed w2 (w.heap.size + 1) 3 (.int .i64 s) := (hb2.block _ (by omega)).trans b2
  have b3 : Boxed w2 (w.heap.size + 1 + 1) 34 (.int .u32 m) := (hb2.block _ (by omega)).trans b3
  have b4 : BoxS w2 (w.heap.size + 1 + 1 + 1) zeroS := b4.kw hb2 (by omega)
  have b5 : Boxed w2 (w.heap.size + 1 + 1 + 1 + 1) 4 (.bool false) := (hb2.block _ (by omega)).trans b5
  have HB2 := Lib.hid (bl_then hbA hb2)
  have B1 := Lib.hid b1
  have B2 := Lib.hid b2
  have B3 := Lib.hid b3
  have B4 := Lib.hid b4
  have B5 := Lib.hid b5
  clear b1 b2 b3 b4 b5 hbA hb2
  go_wp2_with (go_at_call 30; refine (callsIn_wide.1 (files_in Fence.wide 5 trivial rfl _ _ _ _)).mono ?_; rintro e w' ⟨rfl, rfl⟩)
  have hfsl := HFS.out
  have hflat := HFL.out
  have hlen := HLN.out
  have bS := Boxed.new w2 22 (.slice A n c)
  have hbW : Below w2.heap.size w2 (w2.alloc (Obj.cells #[Value.slice A n c] 22)) := bl_alloc (Below.refl _ _) _
  have hBL : Below w.heap.size w (w2.alloc (Obj.cells #[Value.slice A n c] 22)) := HB2.out.trans (hbW.mono (by omega))
  have b1 : Boxed (w2.alloc (Obj.cells #[Value.slice A n c] 22)) w.heap.size 23 (.int .u64 t) := B1.out.alloc _
  have b2 : Boxed (w2.alloc (Obj.cells #[Value.slice A n c] 22)) (w.heap.size + 1) 3 (.int .i64 s) := B2.out.alloc _
  have b3 : Boxed (w2.alloc (Obj.cells #[Value.slice A n c] 22)) (w.heap.size + 1 + 1) 34 (.int .u32 m) := B3.out.alloc _
  have b4 : BoxS (w2.alloc (Obj.cells #[Value.slice A n c] 22)) (w.heap.size + 1 + 1 + 1) zeroS := B4.out.kw hbW (by omega)
  have b5 : Boxed (w2.alloc (Obj.cells #[Value.slice A n c] 22)) (w.heap.size + 1 + 1 + 1 + 1) 4 (.bool false) := B5.out.alloc _
  have hsz : (w2.alloc (Obj.cells #[Value.slice A n c] 22)).heap.size = w2.heap.size + 1 := by simp
  generalize (w2.alloc (Obj.cells #[Value.slice A n c] 22)) = WL at *
  have hPL : RdP WL w.heap.size A l := HA.out.below hBL
  refine (wpIn_wide (n := 10)).1 ?_
  refine wpIn_rangeFunc_ownH rfl (by omega) (gf := 44) (lb := #[.pointer (some ⟨w2.heap.size, 0, none⟩)]) rfl trivial (enters_of Try.func44 (by kernel_rfl) rfl)
    (files_stops Fence.wide (10 - 1) trivial rfl (by omega) w2.heap.size w.heap.size A c l (by omega) (fun p hp => by have := hfsl p hp; omega) WL (by omega) (by omega) (by rw [hlen]; exact bS.cell) hPL) belowK_t (belowK_b (by omega)) (Below.refl _ _) (fun _ => rfl)
    (fun pre W => ((((Boxed W w.heap.size 23 (.int .u64 t) ∧ Boxed W (w.heap.size + 1) 3 (.int .i64 s)) ∧ Boxed W (w.heap.size + 1 + 1) 34 (.int .u32 m)) ∧ BoxS W (w.heap.size + 1 + 1 + 1) (kn t s m (pre.map Prod.snd)).1) ∧ Boxed W (w.heap.size + 1 + 1 + 1 + 1) 4 (.bool (kn t s m (pre.map Prod.snd)).2)) ∧ Below w.heap.size w W)
    (fun _ _ _ => False)
    (OwnFrom.and (OwnFrom.and (OwnFrom.and (OwnFrom.and (OwnFrom.and (Own.from (boxed_own _ _ _) _) (Own.from (boxed_own _ _ _) _)) (Own.from (boxed_own _ _ _) _)) (fun s' X Y row hs hg hr => hs.own hg (fun r e => (hr r e).2))) (Own.from (boxed_own _ _ _) _)) (ownFrom_below (Nat.le_refl _) (by omega)))
    (fun _ _ _ _ _ hs _ _ => hs)
    ⟨⟨⟨⟨⟨b1, b2⟩, b3⟩, b4⟩, b5⟩, hBL⟩
    (fun x a' W => ∃ Bx, w.heap.size + 1 + 1 + 1 + 1 < Bx ∧ BoxS W Bx x.2 ∧ a' = { tmps := #[.slice A n c, .int .u64 t, .int .i64 s, .int .u32 m, undef, .pointer (some ⟨w.heap.size, 0, none⟩), .pointer (some ⟨w.heap.size + 1, 0, none⟩), .pointer (some ⟨w.heap.size + 1 + 1, 0, none⟩), .pointer (some ⟨w.heap.size + 1 + 1 + 1, 0, none⟩), .pointer (some ⟨w.heap.size + 1 + 1 + 1 + 1, 0, none⟩), undef, .pointer (some ⟨Bx, 0, none⟩), .slice A n c, .bool true, .bool false, undef, .slice A n c, .func (.func 44) #[] #[.pointer (some ⟨w2.heap.size, 0, none⟩)], .int .i64 (x.1 : Int), shV x.2, undef, undef, undef, undef, undef, undef, undef, undef, undef, undef, undef, undef, undef, undef, undef, undef, undef, undef, undef], defers := [] })
    (fun x a' _ X Y row hs hg hr => by obtain ⟨Bx, e1, e2, e3⟩ := hs; exact ⟨Bx, e1, e2.own hg (fun r e => (hr r e).2), e3⟩)
    ?assign ?body ?done ?stop
  case assign =>
    rintro lp pre x W K ⟨⟨⟨⟨⟨k1, k2⟩, k3⟩, k4⟩, k5⟩, h5⟩ hK
    simp only [encN, shV]
    gi_wp2
    exact hK _ _ ((KeepsOthers.alloc _ _).from _) ((Below.refl _ W).alloc h5.size _) ⟨⟨⟨⟨⟨k1.alloc _, k2.alloc _⟩, k3.alloc _⟩, k4.grown (World.grownBy_alloc _ _ none) (by simp)⟩, k5.alloc _⟩, h5.alloc h5.size _⟩ ⟨W.heap.size, k5.lt, BoxS.new W x.2, rfl⟩
  case body =>
    rintro lp pre x a' W hlp ⟨r, hr⟩ ⟨⟨⟨⟨⟨k1, k2⟩, k3⟩, k4⟩, k5⟩, h5⟩ ⟨Bx, hBx, hxb, rfl⟩ hpl
    have c1 := k1.cell
    have c2 := k2.cell
    have c3 := k3.cell
    obtain ⟨d0, d1, d2, d3⟩ := k4.cells
    have c5 := k5.cell
    have f5 := k5.frozen
    obtain ⟨g0, g1, g2, g3⟩ := k4.frozens
    obtain ⟨y0, y1, y2, y3⟩ := hxb.cells
    have hsW := h5.size
    have hl1 := k1.lt
    have hl2 := k2.lt
    have hl3 := k3.lt
    have hl4 := k4.lt
    have hl5 := k5.lt
    have hlX := hxb.lt
    have hsn : (pre ++ [x]).map Prod.snd = pre.map Prod.snd ++ [x.2] := by simp
    obtain ⟨xi, f⟩ := x
    dsimp only at *
    have J1 := Lib.hid k1
    have J2 := Lib.hid k2
    have J3 := Lib.hid k3
    have J4 := Lib.hid k4
    have J5 := Lib.hid k5
    have H5 := Lib.hid h5
    have HSN := Lib.hid hsn
    clear k1 k2 k3 k4 k5 h5 hsn hxb hr
    by_cases hk : isK t s m f
    · have HV : Hid (kn t s m ((pre ++ [(xi, f)]).map Prod.snd) = (f, true)) := Lib.hid (by rw [HSN.out]; exact kn_yes hk)
      obtain ⟨e1, e2, e3⟩ := hk
      gi_wp2
      obtain ⟨ft, fs, fm, fn, f5', f6', f7', f8'⟩ := f
      dsimp only at e1 e2 e3
      subst e1 e2 e3
      dsimp only
      have hk := fun k (h1 : k ≠ w.heap.size + 1 + 1 + 1) (h2 : k ≠ w.heap.size + 1 + 1 + 1 + 1) => set5 W (w.heap.size + 1 + 1 + 1) (w.heap.size + 1 + 1 + 1 + 1) (.int .u64 ft) (.int .i64 fs) (.int .u32 fm) (.int .u64 fn) (.bool true) k h1 h2
      have hb4 := BoxS.set4 J4.out ⟨ft, fs, fm, fn, f5', f6', f7', f8'⟩
      refine ⟨KeepsFrom.trans (((((KeepsOthers.setCell _ _ _).trans (KeepsOthers.setCell _ _ _)).trans (KeepsOthers.setCell _ _ _)).trans (KeepsOthers.setCell _ _ _)).from _) ((KeepsOthers.setCell _ _ _).from _), ?_, ⟨⟨⟨⟨⟨?_, ?_⟩, ?_⟩, ?_⟩, ?_⟩, ?_⟩⟩
      · exact (((((Below.refl _ W).setCell (by dsimp only; omega) _).setCell (by dsimp only; omega) _).setCell (by dsimp only; omega) _).setCell (by dsimp only; omega) _).setCell (by dsimp only; omega) _
      · exact (hk _ (by omega) (by omega)).trans J1.out
      · exact (hk _ (by omega) (by omega)).trans J2.out
      · exact (hk _ (by omega) (by omega)).trans J3.out
      · rw [HV.out]
        exact (Below.heap_setCell _ _ _ _ (by dsimp only; omega)).trans hb4
      · rw [HV.out]
        exact Boxed.set _ (show Boxed _ _ 4 (.bool (kn ft fs fm (pre.map Prod.snd)).2) from (set4k W (w.heap.size + 1 + 1 + 1) _ _ _ _ _ (by omega)).trans J5.out)
      · exact ((((H5.out.setCell (by dsimp only; omega) _).setCell (by dsimp only; omega) _).setCell (by dsimp only; omega) _).setCell (by dsimp only; omega) _).setCell (by dsimp only; omega) _
    · have HV : Hid (kn t s m ((pre ++ [(xi, f)]).map Prod.snd) = kn t s m (pre.map Prod.snd)) := Lib.hid (by rw [HSN.out]; exact kn_no hk)
      have hpr : ¬ f.tb = t ∨ (f.tb = t ∧ ¬ f.sz = s) ∨ (f.tb = t ∧ f.sz = s ∧ ¬ f.sm = m) := by
        by_cases q1 : f.tb = t
        · by_cases q2 : f.sz = s
          · exact .inr (.inr ⟨q1, q2, fun q3 => hk ⟨q1, q2, q3⟩⟩)
          · exact .inr (.inl ⟨q1, q2⟩)
        · exact .inl q1
      clear hk
      rcases hpr with hne | ⟨hq1, hne⟩ | ⟨hq1, hq2, hne⟩
      · gi_wp2
        exact ⟨KeepsFrom.refl _ _, Below.refl _ _, ⟨⟨⟨⟨⟨J1.out, J2.out⟩, J3.out⟩, by rw [HV.out]; exact J4.out⟩, by rw [HV.out]; exact J5.out⟩, H5.out⟩⟩
      · gi_wp2
        exact ⟨KeepsFrom.refl _ _, Below.refl _ _, ⟨⟨⟨⟨⟨J1.out, J2.out⟩, J3.out⟩, by rw [HV.out]; exact J4.out⟩, by rw [HV.out]; exact J5.out⟩, H5.out⟩⟩
      · gi_wp2
        exact ⟨KeepsFrom.refl _ _, Below.refl _ _, ⟨⟨⟨⟨⟨J1.out, J2.out⟩, J3.out⟩, by rw [HV.out]; exact J4.out⟩, by rw [HV.out]; exact J5.out⟩, H5.out⟩⟩
  case done =>
    rintro D ys W hD rfl ⟨⟨⟨⟨⟨k1, k2⟩, k3⟩, k4⟩, k5⟩, h5⟩ hK
    have hq : kn t s m ((flat 0 l).map Prod.snd) = kn t s m (allF l) := rfl
    generalize kn t s m ((flat 0 l).map Prod.snd) = q at k4 k5 hq
    obtain ⟨⟨ft, fs, fm, fn, f5', f6', f7', f8'⟩, qb⟩ := q
    have HQ := Lib.hid hq
    clear hq
    dsimp only at k4 k5
    obtain ⟨d0, d1, d2, d3⟩ := k4.cells
    obtain ⟨g0, g1, g2, g3⟩ := k4.frozens
    have c5 := k5.cell
    have f5 := k5.frozen
    have J4 := Lib.hid k4
    have J5 := Lib.hid k5
    have H5 := Lib.hid h5
    have HK := Lib.hid hK
    have hl4 := k4.lt
    have hl5 := k5.lt
    clear k1 k2 k3 k4 k5 h5 hK b1 b2 b3 b4 b5
    dsimp only at *
    go_wp2_with (fail)
    go_region
    go_wp2_with (fail)
    have hb4 := BoxS.set4 J4.out ⟨ft, fs, fm, fn, f5', f6', f7', f8'⟩
    have hb4' := BoxS.kw hb4 (Below.setCell (Below.refl (w.heap.size + 1 + 1 + 1 + 1) _) (p := ⟨w.heap.size + 1 + 1 + 1 + 1, 0, none⟩) (Nat.le_refl _) (.bool qb)) (by omega)
    have hb5 : Boxed (((((W.setCell ⟨w.heap.size + 1 + 1 + 1, 0, none⟩ (.int .u64 ft)).setCell ⟨w.heap.size + 1 + 1 + 1, 1, none⟩ (.int .i64 fs)).setCell ⟨w.heap.size + 1 + 1 + 1, 2, none⟩ (.int .u32 fm)).setCell ⟨w.heap.size + 1 + 1 + 1, 3, none⟩ (.int .u64 fn)).setCell ⟨w.heap.size + 1 + 1 + 1 + 1, 0, none⟩ (.bool qb)) (w.heap.size + 1 + 1 + 1 + 1) 4 (.bool qb) :=
      Boxed.set _ (show Boxed _ _ 4 (.bool qb) from (set4k W (w.heap.size + 1 + 1 + 1) _ _ _ _ _ (by omega)).trans J5.out)
    have hK' := (set5 W (w.heap.size + 1 + 1 + 1) (w.heap.size + 1 + 1 + 1 + 1) (.int .u64 ft) (.int .i64 fs) (.int .u32 fm) (.int .u64 fn) (.bool qb) D (by omega) (by omega)).trans HK.out
    have hbb : Below w.heap.size w (((((W.setCell ⟨w.heap.size + 1 + 1 + 1, 0, none⟩ (.int .u64 ft)).setCell ⟨w.heap.size + 1 + 1 + 1, 1, none⟩ (.int .i64 fs)).setCell ⟨w.heap.size + 1 + 1 + 1, 2, none⟩ (.int .u32 fm)).setCell ⟨w.heap.size + 1 + 1 + 1, 3, none⟩ (.int .u64 fn)).setCell ⟨w.heap.size + 1 + 1 + 1 + 1, 0, none⟩ (.bool qb)) :=
      ((((H5.out.setCell (by dsimp only; omega) _).setCell (by dsimp only; omega) _).setCell (by dsimp only; omega) _).setCell (by dsimp only; omega) _).setCell (by dsimp only; omega) _
    generalize (((((W.setCell ⟨w.heap.size + 1 + 1 + 1, 0, none⟩ (.int .u64 ft)).setCell ⟨w.heap.size + 1 + 1 + 1, 1, none⟩ (.int .i64 fs)).setCell ⟨w.heap.size + 1 + 1 + 1, 2, none⟩ (.int .u32 fm)).setCell ⟨w.heap.size + 1 + 1 + 1, 3, none⟩ (.int .u64 fn)).setCell ⟨w.heap.size + 1 + 1 + 1 + 1, 0, none⟩ (.bool qb)) = W5 at *
    have hK6 : W5.drew.heap[D]? = some (Obj.deferred (some [])) := hK'
    refine ⟨by simp, .inl ⟨_, _, rfl, run_takeDeferred hK6, ?_⟩⟩
    obtain ⟨z0, z1, z2, z3⟩ := hb4'.cells
    have hgp := grownBy_putObj' W5.drew D (.deferred none)
    have hne : ∀ r, some D = some r → ∃ o : Obj, W5.drew.heap[r]? = some o ∧ o.isCells = false := fun r e => by cases e; exact ⟨_, hK6, rfl⟩
    have z0 := cell_kept (W := W5.drew) z0 hgp hne
    have z1 := cell_kept (W := W5.drew) z1 hgp hne
    have z2 := cell_kept (W := W5.drew) z2 hgp hne
    have z3 := cell_kept (W := W5.drew) z3 hgp hne
    have z5 := cell_kept (W := W5.drew) hb5.cell hgp hne
    refine ⟨.tuple #[shV ⟨ft, fs, fm, fn, f5', f6', f7', f8'⟩, .bool qb], ?_, by rw [← HQ.out], (hbb.drew).trans (belowK_b (w := WL) (by omega) W5.drew D _ _ hD hK6 rfl rfl)⟩
    simp [results, Try.f22, go_sem, z0, z1, z2, z3, z5, shV]
  case stop =>
    rintro D cd pre W _ _ h _
    exact h.elim
set_option maxRecDepth 100000 in
set_option maxHeartbeats 4000000 in
theorem known_wrong (A : Option Addr) (n c : Nat) (l : List Pt) (t s m : Int) (w : World) (hl : l.length = n) (hA : RdP w w.heap.size A l) (hr : ¬ RightP l) :
    Calls Try.prog 22 #[.slice A n c, .int .u64 t, .int .i64 s, .int .u32 m] w fun e w' => e = .returned (.tuple #[shV zeroS, .bool false]) ∧ Below w.heap.size w w' := by
  have hrt := rightB_f hr
  have hR := fun (w' : World) (h : Below w.heap.size w w') => right_any A c l w' ((hA.below h).more h.size (Nat.le_refl _))
  rw [hl, hrt] at hR
  have HR := Lib.hid hR
  have HA := Lib.hid hA
  have HLN := Lib.hid hl
  clear hrt hR hA hr hl
  refine (callsIn_wide (n := 10)).1 ?_
  refine callsIn_of_wp_marks Try.func22 rfl trivial ?_ rfl
  refine wpIn_wide.2 ?_
  simp only [Try.ntmps22, List.size_toArray, List.length_cons, List.length_nil, Nat.reduceAdd, Nat.reduceSub, Array.replicate_succ, Array.replicate_zero, List.push_toArray, List.append_toArray, List.nil_append, List.cons_append]
  go_wp2_with (fail)
  obtain ⟨WA, hWA⟩ : ∃ WA, WA = ((((w.alloc (Obj.cells #[.int .u64 t] 23)).alloc (Obj.cells #[.int .i64 s] 3)).alloc (Obj.cells #[.int .u32 m] 34)).alloc (Obj.cells #[.int .u64 0, .int .i64 0, .int .u32 0, .int .u64 0] 36)).alloc (Obj.cells #[.bool false] 4) := ⟨_, rfl⟩
  have b1 : Boxed WA w.heap.size 23 (.int .u64 t) := by rw [hWA]; exact ((((Boxed.new w 23 (.int .u64 t)).alloc _).alloc _).alloc _).alloc _
  have b2 : Boxed WA (w.heap.size + 1) 3 (.int .i64 s) := by rw [hWA]; simpa using (((Boxed.new (w.alloc (Obj.cells #[.int .u64 t] 23)) 3 (.int .i64 s)).alloc (Obj.cells #[.int .u32 m] 34)).alloc (Obj.cells #[.int .u64 0, .int .i64 0, .int .u32 0, .int .u64 0] 36)).alloc (Obj.cells #[.bool false] 4)
  have b3 : Boxed WA (w.heap.size + 1 + 1) 34 (.int .u32 m) := by rw [hWA]; simpa using ((Boxed.new ((w.alloc (Obj.cells #[.int .u64 t] 23)).alloc (Obj.cells #[.int .i64 s] 3)) 34 (.int .u32 m)).alloc (Obj.cells #[.int .u64 0, .int .i64 0, .int .u32 0, .int .u64 0] 36)).alloc (Obj.cells #[.bool false] 4)
  have b4 : BoxS WA (w.heap.size + 1 + 1 + 1) zeroS := by
    rw [hWA]
    have h := (BoxS.new (((w.alloc (Obj.cells #[.int .u64 t] 23)).alloc (Obj.cells #[.int .i64 s] 3)).alloc (Obj.cells #[.int .u32 m] 34)) zeroS).grown (World.grownBy_alloc _ (Obj.cells #[.bool false] 4) none) (by simp)
    simp only [World.size_alloc] at h
    exact h
  have b5 : Boxed WA (w.heap.size + 1 + 1 + 1 + 1) 4 (.bool false) := by rw [hWA]; simpa using Boxed.new ((((w.alloc (Obj.cells #[.int .u64 t] 23)).alloc (Obj.cells #[.int .i64 s] 3)).alloc (Obj.cells #[.int .u32 m] 34)).alloc (Obj.cells #[.int .u64 0, .int .i64 0, .int .u32 0, .int .u64 0] 36)) 4 (.bool false)
  have hbA : Below w.heap.size w WA := by rw [hWA]; exact bl_alloc (bl_alloc (bl_alloc (bl_alloc (bl_alloc (Below.refl _ _) _) _) _) _) _
  have hsA : WA.heap.size = w.heap.size + 5 := by rw [hWA]; simp
  rw [← hWA]
  clear hWA
  refine (HR.out _ hbA).mono ?_
  rintro e w2 ⟨rfl, hb2⟩
  have hs2 := hb2.size
  have b1 : Boxed w2 w.heap.size 23 (.int .u64 t) := (hb2.block _ (by omega)).trans b1
  have b2 : Boxed w2 (w.heap.size + 1) 3 (.int .i64 s) := (hb2.block _ (by omega)).trans b2
  have b3 : Boxed w2 (w.heap.size + 1 + 1) 34 (.int .u32 m) := (hb2.block _ (by omega)).trans b3
  have b4 : BoxS w2 (w.heap.size + 1 + 1 + 1) zeroS := b4.kw hb2 (by omega)
  have b5 : Boxed w2 (w.heap.size + 1 + 1 + 1 + 1) 4 (.bool false) := (hb2.block _ (by omega)).trans b5
  have HB2 := Lib.hid (bl_then hbA hb2)
  have B1 := Lib.hid b1
  have B2 := Lib.hid b2
  have B3 := Lib.hid b3
  have B4 := Lib.hid b4
  have B5 := Lib.hid b5
  clear b1 b2 b3 b4 b5 hbA hb2
  obtain ⟨d0, d1, d2, d3⟩ := B4.out.cells
  obtain ⟨g0, g1, g2, g3⟩ := B4.out.frozens
  have c5 := B5.out.cell
  have f5 := B5.out.frozen
  have hl4 := B4.out.lt
  have hl5 := B5.out.lt
  unfold zeroS at d0 d1 d2 d3
  dsimp only at d0 d1 d2 d3
  go_wp2_with (fail)
  have hb4 := BoxS.set4 B4.out zeroS
  have hb4' := BoxS.kw hb4 (Below.setCell (Below.refl (w.heap.size + 1 + 1 + 1 + 1) _) (p := ⟨w.heap.size + 1 + 1 + 1 + 1, 0, none⟩) (Nat.le_refl _) (.bool false)) (by omega)
  have hb5 : Boxed (((((w2.setCell ⟨w.heap.size + 1 + 1 + 1, 0, none⟩ (.int .u64 0)).setCell ⟨w.heap.size + 1 + 1 + 1, 1, none⟩ (.int .i64 0)).setCell ⟨w.heap.size + 1 + 1 + 1, 2, none⟩ (.int .u32 0)).setCell ⟨w.heap.size + 1 + 1 + 1, 3, none⟩ (.int .u64 0)).setCell ⟨w.heap.size + 1 + 1 + 1 + 1, 0, none⟩ (.bool false)) (w.heap.size + 1 + 1 + 1 + 1) 4 (.bool false) :=
    Boxed.set _ (show Boxed _ _ 4 (.bool false) from (set4k w2 (w.heap.size + 1 + 1 + 1) _ _ _ _ _ (by omega)).trans B5.out)
  have hbb : Below w.heap.size w (((((w2.setCell ⟨w.heap.size + 1 + 1 + 1, 0, none⟩ (.int .u64 0)).setCell ⟨w.heap.size + 1 + 1 + 1, 1, none⟩ (.int .i64 0)).setCell ⟨w.heap.size + 1 + 1 + 1, 2, none⟩ (.int .u32 0)).setCell ⟨w.heap.size + 1 + 1 + 1, 3, none⟩ (.int .u64 0)).setCell ⟨w.heap.size + 1 + 1 + 1 + 1, 0, none⟩ (.bool false)) :=
    ((((HB2.out.setCell (by dsimp only; omega) _).setCell (by dsimp only; omega) _).setCell (by dsimp only; omega) _).setCell (by dsimp only; omega) _).setCell (by dsimp only; omega) _
  unfold zeroS at hb4'
  dsimp only at hb4'
  generalize (((((w2.setCell ⟨w.heap.size + 1 + 1 + 1, 0, none⟩ (.int .u64 0)).setCell ⟨w.heap.size + 1 + 1 + 1, 1, none⟩ (.int .i64 0)).setCell ⟨w.heap.size + 1 + 1 + 1, 2, none⟩ (.int .u32 0)).setCell ⟨w.heap.size + 1 + 1 + 1, 3, none⟩ (.int .u64 0)).setCell ⟨w.heap.size + 1 + 1 + 1 + 1, 0, none⟩ (.bool false)) = W5 at *
  obtain ⟨z0, z1, z2, z3⟩ := hb4'.cells
  have z5 := hb5.cell
  refine ⟨.tuple #[shV zeroS, .bool false], ?_, rfl, hbb⟩
  simp [results, Try.f22, go_sem, z0, z1, z2, z3, z5, shV, zeroS]
open Classical in
/-- What is known. -/
noncomputable def knownL (l : List Pt) (t s m : Int) : Sh × Bool := if RightP l then kn t s m (allF l) else (zeroS, false)
theorem known_any (A : Option Addr) (c : Nat) (l : List Pt) (t s m : Int) (w : World) (hA : RdP w w.heap.size A l) :
    Calls Try.prog 22 #[.slice A l.length c, .int .u64 t, .int .i64 s, .int .u32 m] w fun e w' => e = .returned (.tuple #[shV (knownL l t s m).1, .bool (knownL l t s m).2]) ∧ Below w.heap.size w w' := by
  unfold knownL
  split
  · rename_i h
    exact known_right A l.length c l t s m w rfl hA h
  · rename_i h
    exact known_wrong A l.length c l t s m w rfl hA h
end Go.Proofs.Ytmalcekbhnkfgaa
