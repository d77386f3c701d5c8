/- Contracts of what stands against a step. Conditions: as each theorem states them. -/
import Derived.Test.YtjgiohlkpenipaaA5
namespace Go.Proofs.Ytjgiohlkpenipaa
open Go.RowKit Go.Maps
set_option linter.unusedVariables false
set_option linter.unusedSimpArgs false

/-- A variable that a function took along. -/
def Box (w : World) (b : Nat) (v : Value) (t : TypeId) : Prop := w.heap[b]? = some (Obj.cells #[v] t)
theorem Box.lt {w : World} {b : Nat} {v : Value} {t : TypeId} (h : Box w b v t) : b < w.heap.size := (Array.getElem?_eq_some_iff.1 h).1
theorem Box.kw {w w' : World} {S : Nat → Prop} {b : Nat} {v : Value} {t : TypeId} (h : Box w b v t) (k : Kw S w w') (hb : ¬ S b) : Box w' b v t := (k.block b h.lt hb).trans h
theorem Box.below {w w' : World} {b : Nat} {v : Value} {t : TypeId} (h : Box w b v t) (k : Below w.heap.size w w') : Box w' b v t := (k.block b h.lt).trans h
theorem Box.cell {w : World} {b : Nat} {v : Value} {t : TypeId} (h : Box w b v t) : w.cell? ⟨b, 0, none⟩ = some v := cell_of h 0
theorem Box.new (w : World) (v : Value) (t : TypeId) : Box (w.alloc (Obj.cells #[v] t)) w.heap.size v t := new_heap w _
/-- A new variable's block is none of a disk's. -/
theorem Box.off {w : World} {L : Lay} {s : DS} (h : DAt w L s) {b : Nat} (hb : ∀ c, Foot L s c → c ≠ b) : ¬ Foot L s b := fun hf => hb b hf rfl
theorem DAt.lookExt {w : World} {L : Lay} {s : DS} (h : DAt w L s) {n : ByteArray} (hn : okN n) (u : Value) (hu : optV L.bk (look s.dir n) = u) : ∀ X : Ext w, (Instr.lookup 57 (.map (some L.md)) (.string n) false).run Try.prog X.val = .ok u X.val := fun X => by
  obtain ⟨D, hD⟩ := (h.below X.bl).dirm
  rw [hD.look hn, hu]
theorem DAt.lenExt {w : World} {L : Lay} {s : DS} (h : DAt w L s) (ty : TypeId) : ∀ X : Ext w, (Builtin.len_ #[57] ty #[.map (some L.md)]).run Try.prog X.val = .ok (.int .i64 s.dir.length) X.val := fun X => by
  obtain ⟨D, hD⟩ := (h.below X.bl).dirm
  exact hD.len ty
theorem DAt.cExt {w : World} {L : Lay} {s : DS} (h : DAt w L s) : ∀ X : Ext w, X.val.cell? ⟨L.d, 4, none⟩ = some (.map (some L.md)) := ext_cell h.c.2.2.2.2.1
/-- What stands against a call that asks for a name. -/
def agThere (s : DS) (n : ByteArray) : Int := if look s.dir n = none then 4 else 0
set_option maxRecDepth 100000 in
set_option maxHeartbeats 1000000 in
theorem there_in (L : Lay) (s : DS) (n : ByteArray) (bd bn : Nat) (w : World) (h : DAt w L s) (hn : okN n) (hd : Box w bd (dP L) 24) (hb : Box w bn (.string n) 9) :
    Calls Try.prog 65 #[ptrV bd, ptrV bn] w fun r w' => r = .returned (.int .i64 (agThere s n)) ∧ Below w.heap.size w w' := by
  have c0 := hd.cell
  have c1 := hb.cell
  have l0 := hd.lt
  have l1 := hb.lt
  have l2 := h.lt
  have e0 := ext_cell c0
  have e1 := ext_cell c1
  have e2 := h.cExt
  have H := Lib.hid h
  unfold dP ptrV at *
  unfold agThere
  cases hl : look s.dir n with
  | none =>
    have e3 := h.lookExt hn (.pointer none) (by rw [hl]; rfl)
    rw [if_pos rfl]
    clear h hl hd hb
    go_enter Try.func65, Try.ntmps65
    go_wp2_with (fail)
    refine wp_region_ext (by kernel_rfl) (by kernel_rfl) ?_
    repeat (go_big_quiet_step (fail))
    refine wpQuiet_nil ?_
    rintro w2 ⟨⟨_, hb2⟩, rfl⟩
    go_wp2_with (fail)
    go_ret
    exact ⟨rfl, hb2⟩
  | some i =>
    have e3 := h.lookExt hn (.pointer (some ⟨L.bk i, 0, none⟩)) (by rw [hl]; rfl)
    rw [if_neg (by simp)]
    clear h hl hd hb
    go_enter Try.func65, Try.ntmps65
    go_wp2_with (fail)
    refine wp_region_ext (by kernel_rfl) (by kernel_rfl) ?_
    repeat (go_big_quiet_step (fail))
    refine wpQuiet_nil ?_
    rintro w2 ⟨⟨_, hb2⟩, rfl⟩
    go_wp2_with (fail)
    go_ret
    exact ⟨rfl, hb2⟩
theorem sync_in (w : World) : Calls Try.prog 37 #[] w fun r w' => r = .returned (.int .i64 0) ∧ Below w.heap.size w w' := by
  go_enter Try.func37, Try.ntmps37
  go_wp2_with (fail)
  go_ret
  exact ⟨rfl, Below.refl _ _⟩
/-- What stands against Create. -/
def agCreate (s : DS) (n : ByteArray) : Int := if ¬ named n then 2 else if look s.dir n ≠ none then 5 else if 4096 ≤ s.dir.length then 8 else 0
set_option maxRecDepth 100000 in
set_option maxHeartbeats 2000000 in
theorem create_in (L : Lay) (s : DS) (n : ByteArray) (bd bn : Nat) (w : World) (h : DAt w L s) (hn : okN n) (hd : Box w bd (dP L) 24) (hb : Box w bn (.string n) 9) :
    Calls Try.prog 28 #[ptrV bn, ptrV bd] w fun r w' => r = .returned (.int .i64 (agCreate s n)) ∧ Below w.heap.size w w' := by
  have c0 := hd.cell
  have c1 := hb.cell
  have l0 := hd.lt
  have l1 := hb.lt
  have l2 := h.lt
  have e0 := ext_cell c0
  have e1 := ext_cell c1
  have e2 := h.cExt
  have H := Lib.hid h
  have HN := Lib.hid (named_any n)
  unfold dP ptrV at *
  by_cases hnm : named n
  · rw [show decide (named n) = true from decide_eq_true hnm] at HN
    cases hl : look s.dir n with
    | none =>
      have e3 := h.lookExt hn (.pointer none) (by rw [hl]; rfl)
      by_cases h4 : 4096 ≤ s.dir.length
      · have hE : agCreate s n = 8 := by unfold agCreate; rw [if_neg (by simpa using hnm), if_neg (by simp [hl]), if_pos h4]
        rw [hE]
        clear hE
        have h4i : (4096 : Int) ≤ (s.dir.length : Int) := by omega
        clear h hl hd hb hnm h4
        go_enter Try.func28, Try.ntmps28
        go_wp2_with (fail)
        refine (HN.out w).mono ?_
        rintro r w' ⟨rfl, rfl⟩
        go_wp2_with (fail)
        refine wp_region_ext (by kernel_rfl) (by kernel_rfl) ?_
        repeat (go_big_quiet_step (fail))
        refine wpQuiet_nil ?_
        rintro w2 ⟨⟨_, hb2⟩, rfl⟩
        obtain ⟨D, hD⟩ := (H.out.below hb2).dirm
        have hlen := hD.len 3
        have c0 := (hb2.cell (p := ⟨bd, 0, none⟩) l0).trans c0
        have c4 := (hb2.cell (p := ⟨L.d, 4, none⟩) l2).trans H.out.c.2.2.2.2.1
        have hsz := hb2.size
        have l0 : bd < w2.heap.size := by omega
        have l2 : L.d < w2.heap.size := by omega
        clear hD e0 e1 e2 e3
        go_wp2_with (fail)
        go_ret
        exact ⟨rfl, hb2⟩
      · have hE : agCreate s n = 0 := by unfold agCreate; rw [if_neg (by simpa using hnm), if_neg (by simp [hl]), if_neg h4]
        rw [hE]
        clear hE
        have h4i : ¬ (4096 : Int) ≤ (s.dir.length : Int) := by omega
        clear h hl hd hb hnm h4
        go_enter Try.func28, Try.ntmps28
        go_wp2_with (fail)
        refine (HN.out w).mono ?_
        rintro r w' ⟨rfl, rfl⟩
        go_wp2_with (fail)
        refine wp_region_ext (by kernel_rfl) (by kernel_rfl) ?_
        repeat (go_big_quiet_step (fail))
        refine wpQuiet_nil ?_
        rintro w2 ⟨⟨_, hb2⟩, rfl⟩
        obtain ⟨D, hD⟩ := (H.out.below hb2).dirm
        have hlen := hD.len 3
        have c0 := (hb2.cell (p := ⟨bd, 0, none⟩) l0).trans c0
        have c4 := (hb2.cell (p := ⟨L.d, 4, none⟩) l2).trans H.out.c.2.2.2.2.1
        have hsz := hb2.size
        have l0 : bd < w2.heap.size := by omega
        have l2 : L.d < w2.heap.size := by omega
        clear hD e0 e1 e2 e3
        go_wp2_with (fail)
        go_ret
        exact ⟨rfl, hb2⟩
    | some i =>
      have hE : agCreate s n = 5 := by unfold agCreate; rw [if_neg (by simpa using hnm), if_pos (by simp [hl])]
      rw [hE]
      clear hE
      have e3 := h.lookExt hn (.pointer (some ⟨L.bk i, 0, none⟩)) (by rw [hl]; rfl)
      clear h hl hd hb hnm
      go_enter Try.func28, Try.ntmps28
      go_wp2_with (fail)
      refine (HN.out w).mono ?_
      rintro r w' ⟨rfl, rfl⟩
      go_wp2_with (fail)
      refine wp_region_ext (by kernel_rfl) (by kernel_rfl) ?_
      repeat (go_big_quiet_step (fail))
      refine wpQuiet_nil ?_
      rintro w2 ⟨⟨_, hb2⟩, rfl⟩
      go_wp2_with (fail)
      go_ret
      exact ⟨rfl, hb2⟩
  · have hE : agCreate s n = 2 := by unfold agCreate; rw [if_pos hnm]
    rw [hE]
    rw [show decide (named n) = false from decide_eq_false hnm] at HN
    clear hE hnm h hd hb
    go_enter Try.func28, Try.ntmps28
    go_wp2_with (fail)
    refine (HN.out w).mono ?_
    rintro r w' ⟨rfl, rfl⟩
    go_wp2_with (fail)
    go_ret
    exact ⟨rfl, Below.refl _ _⟩
/-- What stands against Rename. -/
def agRename (s : DS) (n to : ByteArray) : Int := if look s.dir n = none then 4 else if ¬ named to then 2 else 0
set_option maxRecDepth 100000 in
set_option maxHeartbeats 2000000 in
theorem rename_none (L : Lay) (s : DS) (n to : ByteArray) (bd bn bt : Nat) (w : World) (h : DAt w L s) (hn : okN n) (hd : Box w bd (dP L) 24) (hb : Box w bn (.string n) 9) (hbt : Box w bt (.string to) 9) (hl : look s.dir n = none) :
    Calls Try.prog 40 #[ptrV bd, ptrV bn, ptrV bt] w fun r w' => r = .returned (.int .i64 (agRename s n to)) ∧ Below w.heap.size w w' := by
  have c0 := hd.cell
  have c1 := hb.cell
  have c2 := hbt.cell
  have l0 := hd.lt
  have l1 := hb.lt
  have l2 := h.lt
  have l3 := hbt.lt
  have e0 := ext_cell c0
  have e1 := ext_cell c1
  have e2 := h.cExt
  have HN := Lib.hid (named_any to)
  unfold dP ptrV at *
  have hE : agRename s n to = 4 := by unfold agRename; rw [if_pos hl]
  rw [hE]
  have e3 := h.lookExt hn (.pointer none) (by rw [hl]; rfl)
  clear hE h hl hd hb hbt
  go_enter Try.func40, Try.ntmps40
  go_wp2_with (fail)
  refine wp_region_ext (by kernel_rfl) (by kernel_rfl) ?_
  repeat (go_big_quiet_step (fail))
  refine wpQuiet_nil ?_
  rintro w2 ⟨⟨_, hb2⟩, rfl⟩
  go_wp2_with (fail)
  go_ret
  exact ⟨rfl, hb2⟩
set_option maxRecDepth 100000 in
set_option maxHeartbeats 2000000 in
theorem rename_bad (L : Lay) (s : DS) (n to : ByteArray) (bd bn bt : Nat) (w : World) (h : DAt w L s) (hn : okN n) (hd : Box w bd (dP L) 24) (hb : Box w bn (.string n) 9) (hbt : Box w bt (.string to) 9) (i : Nat) (hl : look s.dir n = some i) (hnm : ¬ named to) :
    Calls Try.prog 40 #[ptrV bd, ptrV bn, ptrV bt] w fun r w' => r = .returned (.int .i64 (agRename s n to)) ∧ Below w.heap.size w w' := by
  have c0 := hd.cell
  have c1 := hb.cell
  have c2 := hbt.cell
  have l0 := hd.lt
  have l1 := hb.lt
  have l2 := h.lt
  have l3 := hbt.lt
  have e0 := ext_cell c0
  have e1 := ext_cell c1
  have e2 := h.cExt
  have HN := Lib.hid (named_any to)
  unfold dP ptrV at *
  have hE : agRename s n to = 2 := by unfold agRename; rw [if_neg (by simp [hl]), if_pos hnm]
  rw [hE]
  have e3 := h.lookExt hn (.pointer (some ⟨L.bk i, 0, none⟩)) (by rw [hl]; rfl)
  rw [show decide (named to) = false from decide_eq_false hnm] at HN
  clear hnm
  clear hE h hl hd hb hbt
  go_enter Try.func40, Try.ntmps40
  go_wp2_with (fail)
  refine wp_region_ext (by kernel_rfl) (by kernel_rfl) ?_
  repeat (go_big_quiet_step (fail))
  refine wpQuiet_nil ?_
  rintro w2 ⟨⟨_, hb2⟩, rfl⟩
  have c2 := (hb2.cell (p := ⟨bt, 0, none⟩) l3).trans c2
  have hsz := hb2.size
  have l3 : bt < w2.heap.size := by omega
  go_wp2_with (fail)
  refine (HN.out _).mono ?_
  rintro r w' ⟨rfl, rfl⟩
  go_wp2_with (fail)
  go_ret
  exact ⟨rfl, hb2⟩
set_option maxRecDepth 100000 in
set_option maxHeartbeats 2000000 in
theorem rename_ok (L : Lay) (s : DS) (n to : ByteArray) (bd bn bt : Nat) (w : World) (h : DAt w L s) (hn : okN n) (hd : Box w bd (dP L) 24) (hb : Box w bn (.string n) 9) (hbt : Box w bt (.string to) 9) (i : Nat) (hl : look s.dir n = some i) (hnm : named to) :
    Calls Try.prog 40 #[ptrV bd, ptrV bn, ptrV bt] w fun r w' => r = .returned (.int .i64 (agRename s n to)) ∧ Below w.heap.size w w' := by
  have c0 := hd.cell
  have c1 := hb.cell
  have c2 := hbt.cell
  have l0 := hd.lt
  have l1 := hb.lt
  have l2 := h.lt
  have l3 := hbt.lt
  have e0 := ext_cell c0
  have e1 := ext_cell c1
  have e2 := h.cExt
  have HN := Lib.hid (named_any to)
  unfold dP ptrV at *
  have hE : agRename s n to = 0 := by unfold agRename; rw [if_neg (by simp [hl]), if_neg (by simpa using hnm)]
  rw [hE]
  have e3 := h.lookExt hn (.pointer (some ⟨L.bk i, 0, none⟩)) (by rw [hl]; rfl)
  rw [show decide (named to) = true from decide_eq_true hnm] at HN
  clear hnm
  clear hE h hl hd hb hbt
  go_enter Try.func40, Try.ntmps40
  go_wp2_with (fail)
  refine wp_region_ext (by kernel_rfl) (by kernel_rfl) ?_
  repeat (go_big_quiet_step (fail))
  refine wpQuiet_nil ?_
  rintro w2 ⟨⟨_, hb2⟩, rfl⟩
  have c2 := (hb2.cell (p := ⟨bt, 0, none⟩) l3).trans c2
  have hsz := hb2.size
  have l3 : bt < w2.heap.size := by omega
  go_wp2_with (fail)
  refine (HN.out _).mono ?_
  rintro r w' ⟨rfl, rfl⟩
  go_wp2_with (fail)
  go_ret
  exact ⟨rfl, hb2⟩
theorem rename_in (L : Lay) (s : DS) (n to : ByteArray) (bd bn bt : Nat) (w : World) (h : DAt w L s) (hn : okN n) (hd : Box w bd (dP L) 24) (hb : Box w bn (.string n) 9) (hbt : Box w bt (.string to) 9) :
    Calls Try.prog 40 #[ptrV bd, ptrV bn, ptrV bt] w fun r w' => r = .returned (.int .i64 (agRename s n to)) ∧ Below w.heap.size w w' := by
  cases hl : look s.dir n with
  | none => exact rename_none L s n to bd bn bt w h hn hd hb hbt hl
  | some i =>
    by_cases hnm : named to
    · exact rename_ok L s n to bd bn bt w h hn hd hb hbt i hl hnm
    · exact rename_bad L s n to bd bn bt w h hn hd hb hbt i hl hnm
end Go.Proofs.Ytjgiohlkpenipaa
