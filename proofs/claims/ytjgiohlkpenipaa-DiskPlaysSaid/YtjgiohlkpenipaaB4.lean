/- Contracts of Sync and Remove. Conditions: as each theorem states them. -/
import Derived.Test.YtjgiohlkpenipaaB3
namespace Go.Proofs.Ytjgiohlkpenipaa
open Go.RowKit Go.Maps
set_option linter.unusedVariables false
set_option linter.unusedSimpArgs false

theorem there_any (L : Lay) (n : ByteArray) (W : World) : Calls Try.prog 35 #[dP L, .string n] W fun e w' => e = .returned (.func (.func 65) #[] #[ptrV W.heap.size, ptrV (W.heap.size + 1)]) ∧ Box w' W.heap.size (dP L) 24 ∧ Box w' (W.heap.size + 1) (.string n) 9 ∧ Below W.heap.size W w' := by
  have x0 : Box ((W.alloc (Obj.cells #[dP L] 24)).alloc (Obj.cells #[.string n] 9)) W.heap.size (dP L) 24 := (Box.new W (dP L) 24).below (bl_alloc (Below.refl _ _) _)
  have x1 : Box ((W.alloc (Obj.cells #[dP L] 24)).alloc (Obj.cells #[.string n] 9)) (W.heap.size + 1) (.string n) 9 := by simpa using Box.new (W.alloc (Obj.cells #[dP L] 24)) (.string n) 9
  have hb : Below W.heap.size W ((W.alloc (Obj.cells #[dP L] 24)).alloc (Obj.cells #[.string n] 9)) := bl_alloc (bl_alloc (Below.refl _ _) _) _
  have X := Lib.hid (And.intro x0 (And.intro x1 hb))
  clear x0 x1 hb
  unfold dP ptrV at *
  go_enter Try.func35, Try.ntmps35
  go_wp2_with (fail)
  go_ret
  exact ⟨rfl, X.out⟩
set_option maxRecDepth 100000 in
set_option maxHeartbeats 2000000 in
theorem sync_any (L : Lay) (s : DS) (n : ByteArray) (w : World) (h : DAt w L s) (ok : OkS s) (hs : s.steps < 1000000) (hn : okN n) :
    Calls Try.prog 13 #[dP L, .string n] w (OpR w L s (s.fsync n)) := by
  have hlt := h.lt
  have hb0 : Below w.heap.size w ((w.alloc (Obj.cells #[dP L] 24)).alloc (Obj.cells #[.string n] 9)) := bl_alloc (bl_alloc (Below.refl _ _) _) _
  have x0 : Box ((w.alloc (Obj.cells #[dP L] 24)).alloc (Obj.cells #[.string n] 9)) w.heap.size (dP L) 24 := (Box.new w (dP L) 24).below (bl_alloc (Below.refl _ _) _)
  have x1 : Box ((w.alloc (Obj.cells #[dP L] 24)).alloc (Obj.cells #[.string n] 9)) (w.heap.size + 1) (.string n) 9 := by simpa using Box.new (w.alloc (Obj.cells #[dP L] 24)) (.string n) 9
  have hd := h.below hb0
  have hst : Hid (∀ W p0 p1, Below w.heap.size w W → DAt W L s → Box W w.heap.size (dP L) 24 → Box W (w.heap.size + 1) (.string n) 9 → Box W p0 (dP L) 24 → Box W p1 (.string n) 9 → Calls Try.prog 27 #[dP L, .func (.func 65) #[] #[ptrV p0, ptrV p1], .func (.func 36) #[] #[ptrV w.heap.size, ptrV (w.heap.size + 1)]] W fun r w' => OpR w L s (s.fsync n) r w' ∧ Box w' w.heap.size (dP L) 24 ∧ Box w' (w.heap.size + 1) (.string n) 9) := Lib.hid (fun W p0 p1 hb0 hd x0 x1 y0 y1 => by
    have h1 := ok.fu
    refine (step_sync L s p0 p1 w.heap.size (w.heap.size + 1) _ _ W hd (by omega) h1 (fun w' hb' hdn => there_in L s n _ _ w' (hd.below hb') hn (y0.below hb') (y1.below hb')) (fun w1 w2 hb1 hk2 hd2 hdn he => by
      obtain ⟨i, hi⟩ := ag_there he
      have e : s.at_ n = i := by unfold DS.at_; rw [hi]; rfl
      rw [e]
      exact sync_do L s.tick n _ _ i w2 hd2 (ok.tick hs) hn hi ((x0.below hb1).kw hk2 (by omega)) ((x1.below hb1).kw hk2 (by omega)))).mono (fun r w' hr => ⟨hr.from hb0, ?_⟩)
    obtain ⟨_, L', _, _, hk, _⟩ := hr
    exact ⟨x0.kw hk (off_foot (W := w) h (Nat.le_refl _)), x1.kw hk (off_foot (W := w) h (by omega))⟩)
  have c0 := x0.cell
  have c1 := x1.cell
  have l0 := x0.lt
  have l1 := x1.lt
  have HT := Lib.hid (fun W => there_any L n W)
  have HB0 := Lib.hid hb0
  have H := Lib.hid h
  have HX := Lib.hid (And.intro x0 (And.intro x1 hd))
  clear h hd ok x0 x1 hb0
  unfold dP ptrV at *
  go_enter Try.func13, Try.ntmps13
  go_wp2_with (fail)
  generalize ((w.alloc (Obj.cells #[.pointer (some ⟨L.d, 0, none⟩)] 24)).alloc (Obj.cells #[.string n] 9)) = W at *
  have HDR : Hid (Below W.heap.size W W.drew) := Lib.hid (Below.refl _ _).drew
  go_region_held3 (fun z => z.cell? ⟨w.heap.size, 0, none⟩ = some (.pointer (some ⟨L.d, 0, none⟩)) ∧ z.cell? ⟨w.heap.size + 1, 0, none⟩ = some (.string n))
    (first | exact ⟨c0, c1⟩ | exact ⟨(hb2.cell (p := ⟨w.heap.size, 0, none⟩) l0).trans c0, (hb2.cell (p := ⟨w.heap.size + 1, 0, none⟩) l1).trans c1⟩ | exact ⟨z0.cell, z1.cell⟩)
    ((first
      | (go_at_call 35; refine (HT.out _).mono ?_; rintro e w2 ⟨rfl, y0, y1, hb2⟩)
      | (go_at_call 27; refine (hst.out w2 _ _ (HB0.out.trans ((HDR.out.trans hb2).mono HB0.out.size)) ((HX.out.2.2.below HDR.out).below hb2) ((HX.out.1.below HDR.out).below hb2) ((HX.out.2.1.below HDR.out).below hb2) y0 y1).mono ?_; rintro r w3 ⟨hr, z0, z1⟩; obtain rfl := hr.1)))
  all_goals (
    have HR := Lib.hid hr
    clear hr
    go_wp2_with (fail)
    go_ret
    exact HR.out)
set_option maxRecDepth 100000 in
set_option maxHeartbeats 2000000 in
theorem remove_any (L : Lay) (s : DS) (n : ByteArray) (w : World) (h : DAt w L s) (ok : OkS s) (hs : s.steps < 1000000) (hn : okN n) :
    Calls Try.prog 47 #[dP L, .string n] w (OpR w L s (s.remove n)) := by
  have hlt := h.lt
  have hb0 : Below w.heap.size w ((w.alloc (Obj.cells #[dP L] 24)).alloc (Obj.cells #[.string n] 9)) := bl_alloc (bl_alloc (Below.refl _ _) _) _
  have x0 : Box ((w.alloc (Obj.cells #[dP L] 24)).alloc (Obj.cells #[.string n] 9)) w.heap.size (dP L) 24 := (Box.new w (dP L) 24).below (bl_alloc (Below.refl _ _) _)
  have x1 : Box ((w.alloc (Obj.cells #[dP L] 24)).alloc (Obj.cells #[.string n] 9)) (w.heap.size + 1) (.string n) 9 := by simpa using Box.new (w.alloc (Obj.cells #[dP L] 24)) (.string n) 9
  have hd := h.below hb0
  have hst : Hid (∀ W p0 p1, Below w.heap.size w W → DAt W L s → Box W w.heap.size (dP L) 24 → Box W (w.heap.size + 1) (.string n) 9 → Box W p0 (dP L) 24 → Box W p1 (.string n) 9 → Calls Try.prog 27 #[dP L, .func (.func 65) #[] #[ptrV p0, ptrV p1], .func (.func 71) #[] #[ptrV w.heap.size, ptrV (w.heap.size + 1)]] W fun r w' => OpR w L s (s.remove n) r w' ∧ Box w' w.heap.size (dP L) 24 ∧ Box w' (w.heap.size + 1) (.string n) 9) := Lib.hid (fun W p0 p1 hb0 hd x0 x1 y0 y1 => by
    have h1 := ok.fu
    refine (step_remove L s p0 p1 w.heap.size (w.heap.size + 1) _ _ W hd (by omega) h1 (fun w' hb' hdn => there_in L s n _ _ w' (hd.below hb') hn (y0.below hb') (y1.below hb')) (fun w1 w2 hb1 hk2 hd2 hdn he => by
      exact remove_do L s.tick n _ _ w2 hd2 (ok.tick hs) hn ((x0.below hb1).kw hk2 (by omega)) ((x1.below hb1).kw hk2 (by omega)))).mono (fun r w' hr => ⟨hr.from hb0, ?_⟩)
    obtain ⟨_, L', _, _, hk, _⟩ := hr
    exact ⟨x0.kw hk (off_foot (W := w) h (Nat.le_refl _)), x1.kw hk (off_foot (W := w) h (by omega))⟩)
  have c0 := x0.cell
  have c1 := x1.cell
  have l0 := x0.lt
  have l1 := x1.lt
  have HT := Lib.hid (fun W => there_any L n W)
  have HB0 := Lib.hid hb0
  have H := Lib.hid h
  have HX := Lib.hid (And.intro x0 (And.intro x1 hd))
  clear h hd ok x0 x1 hb0
  unfold dP ptrV at *
  go_enter Try.func47, Try.ntmps47
  go_wp2_with (fail)
  generalize ((w.alloc (Obj.cells #[.pointer (some ⟨L.d, 0, none⟩)] 24)).alloc (Obj.cells #[.string n] 9)) = W at *
  have HDR : Hid (Below W.heap.size W W.drew) := Lib.hid (Below.refl _ _).drew
  go_region_held3 (fun z => z.cell? ⟨w.heap.size, 0, none⟩ = some (.pointer (some ⟨L.d, 0, none⟩)) ∧ z.cell? ⟨w.heap.size + 1, 0, none⟩ = some (.string n))
    (first | exact ⟨c0, c1⟩ | exact ⟨(hb2.cell (p := ⟨w.heap.size, 0, none⟩) l0).trans c0, (hb2.cell (p := ⟨w.heap.size + 1, 0, none⟩) l1).trans c1⟩ | exact ⟨z0.cell, z1.cell⟩)
    ((first
      | (go_at_call 35; refine (HT.out _).mono ?_; rintro e w2 ⟨rfl, y0, y1, hb2⟩)
      | (go_at_call 27; refine (hst.out w2 _ _ (HB0.out.trans ((HDR.out.trans hb2).mono HB0.out.size)) ((HX.out.2.2.below HDR.out).below hb2) ((HX.out.1.below HDR.out).below hb2) ((HX.out.2.1.below HDR.out).below hb2) y0 y1).mono ?_; rintro r w3 ⟨hr, z0, z1⟩; obtain rfl := hr.1)))
  all_goals (
    have HR := Lib.hid hr
    clear hr
    go_wp2_with (fail)
    go_ret
    exact HR.out)
end Go.Proofs.Ytjgiohlkpenipaa
