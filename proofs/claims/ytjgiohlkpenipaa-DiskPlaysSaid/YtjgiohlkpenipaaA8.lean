/- Contract of what stands against Append; bounds that a disk keeps. Conditions: as each theorem states them. -/
import Derived.Test.YtjgiohlkpenipaaA7
namespace Go.Proofs.Ytjgiohlkpenipaa
open Go.RowKit Go.Maps
set_option linter.unusedVariables false
set_option linter.unusedSimpArgs false

/-- What a disk keeps. -/
structure OkS (s : DS) : Prop where
  rm : s.room ≤ 268435456
  st : s.steps ≤ 1000000
  fu : s.fuse < 9223372036854775808
  dl : s.dir.length ≤ s.steps
  kl : s.kept.length + s.waits.length ≤ s.steps
  fs : ∀ i, (s.file i).data.size ≤ 2000 * s.steps
  su : ∀ i, (s.file i).sure ≤ (s.file i).data.size
  nd : ∀ p ∈ s.dir, named p.1
  nk : ∀ p ∈ s.kept, named p.1
  nw : ∀ c ∈ s.waits, (c.frm = ByteArray.empty ∨ named c.frm) ∧ (c.to = ByteArray.empty ∨ named c.to)
theorem sum_le (g : Nat → Nat) (B : Nat) : ∀ (l : Dir), (∀ p ∈ l, g p.2 ≤ B) → sumD g l ≤ l.length * B
  | [], _ => by simp [sumD]
  | p :: l, h => by
    have ih := sum_le g B l (fun q hq => h q (List.mem_cons_of_mem _ hq))
    have h1 := h p (List.mem_cons_self ..)
    unfold sumD at *
    simp only [List.map_cons, List.sum_cons, List.length_cons]
    rw [Nat.succ_mul]
    omega
theorem OkS.sum {s : DS} (h : OkS s) : sumD (fun i => (s.file i).data.size) s.dir ≤ 2000000000000000 := by
  have h1 := sum_le (fun i => (s.file i).data.size) (2000 * 1000000) s.dir (fun p _ => by
    have := h.fs p.2
    have := h.st
    omega)
  have h2 := h.dl
  have h3 := h.st
  omega
theorem OkS.usedB {s : DS} (h : OkS s) : s.used ≤ 2000000000000000 := by
  unfold DS.used
  split
  · omega
  · exact h.sum
theorem okN_named {n : ByteArray} (h : named n) : okN n := by
  have := h.2.1
  unfold okN maxLen
  omega
theorem named_ne {n : ByteArray} (h : named n) : n ≠ ByteArray.empty := fun e => by
  have := h.1
  rw [e] at this
  exact absurd this (by decide)
/-- What stands against Append. -/
def agAppend (s : DS) (n data : ByteArray) : Int := if look s.dir n = none then 4 else if (s.room : Int) - s.used < data.size then 8 else 0
set_option maxRecDepth 100000 in
set_option maxHeartbeats 2000000 in
theorem append_none (L : Lay) (s : DS) (n data : ByteArray) (bd bn bt : Nat) (w : World) (h : DAt w L s) (ok : OkS s) (hn : okN n) (hd : Box w bd (dP L) 24) (hb : Box w bn (.string n) 9) (hbt : Box w bt (.string data) 9) (hl : look s.dir n = none) :
    Calls Try.prog 32 #[ptrV bd, ptrV bn, ptrV bt] w fun r w' => r = .returned (.int .i64 (agAppend s n data)) ∧ Below w.heap.size w w' := by
  have c0 := hd.cell
  have c1 := hb.cell
  have c2 := hbt.cell
  have l0 := hd.lt
  have l1 := hb.lt
  have l2 := h.lt
  have l3 := hbt.lt
  have e0 := ext_cell c0
  have e1 := ext_cell c1
  have e2 := h.cExt
  unfold ptrV at *
  have hE : agAppend s n data = 4 := by unfold agAppend; rw [if_pos hl]
  rw [hE]
  have e3 := h.lookExt hn (.pointer none) (by rw [hl]; rfl)
  have H := Lib.hid h
  clear hE h hl hd hb hbt ok
  unfold dP at *
  go_enter Try.func32, Try.ntmps32
  go_wp2_with (fail)
  refine wp_region_ext (by kernel_rfl) (by kernel_rfl) ?_
  repeat (go_big_quiet_step (fail))
  refine wpQuiet_nil ?_
  rintro w2 ⟨⟨_, hb2⟩, rfl⟩
  go_wp2_with (fail)
  go_ret
  exact ⟨rfl, hb2⟩
set_option maxRecDepth 100000 in
set_option maxHeartbeats 2000000 in
theorem append_full (L : Lay) (s : DS) (n data : ByteArray) (bd bn bt : Nat) (w : World) (h : DAt w L s) (ok : OkS s) (hn : okN n) (hd : Box w bd (dP L) 24) (hb : Box w bn (.string n) 9) (hbt : Box w bt (.string data) 9) (i : Nat) (hl : look s.dir n = some i) (hr : (s.room : Int) - s.used < data.size) :
    Calls Try.prog 32 #[ptrV bd, ptrV bn, ptrV bt] w fun r w' => r = .returned (.int .i64 (agAppend s n data)) ∧ Below w.heap.size w w' := by
  have c0 := hd.cell
  have c1 := hb.cell
  have c2 := hbt.cell
  have l0 := hd.lt
  have l1 := hb.lt
  have l2 := h.lt
  have l3 := hbt.lt
  have e0 := ext_cell c0
  have e1 := ext_cell c1
  have e2 := h.cExt
  unfold ptrV at *
  have hE : agAppend s n data = 8 := by unfold agAppend; rw [if_neg (by simp [hl]), if_pos hr]
  rw [hE]
  have e3 := h.lookExt hn (.pointer (some ⟨L.bk i, 0, none⟩)) (by rw [hl]; rfl)
  have H := Lib.hid h
  have HU := Lib.hid (fun (w' : World) (hb : Below w.heap.size w w') => used_any L s w' (h.below hb) (by have := ok.sum; omega))
  have hub := ok.usedB
  have hrm := ok.rm
  obtain ⟨m, hm⟩ : ∃ m, data.size = m := ⟨_, rfl⟩
  rw [hm] at hr
  have ge1 : -9223372036854775808 ≤ (s.room : Int) - (s.used : Int) := by omega
  have ge2 : (s.room : Int) - (s.used : Int) < 9223372036854775808 := by omega
  clear hrm hub
  generalize s.used = U at *
  clear hE h hl hd hb hbt ok
  unfold dP at *
  go_enter Try.func32, Try.ntmps32
  go_wp2_with (fail)
  refine wp_region_ext (by kernel_rfl) (by kernel_rfl) ?_
  repeat (go_big_quiet_step (fail))
  refine wpQuiet_nil ?_
  rintro w2 ⟨⟨_, hb2⟩, rfl⟩
  have HB2 := Lib.hid hb2
  have c2 := (hb2.cell (p := ⟨bt, 0, none⟩) l3).trans c2
  have c0 := (hb2.cell (p := ⟨bd, 0, none⟩) l0).trans c0
  have a0 := (hb2.cell (p := ⟨L.d, 0, none⟩) l2).trans H.out.c.1
  have hsz := hb2.size
  have l3 : bt < w2.heap.size := by omega
  have l0 : bd < w2.heap.size := by omega
  have l2 : L.d < w2.heap.size := by omega
  have e0 := ext_cell c0
  have e1 := ext_cell c2
  have e2 := ext_cell a0
  have HUU : Hid (∀ X : Ext w2, Calls Try.prog 33 #[.pointer (some ⟨L.d, 0, none⟩)] X.val fun e w' => e = .returned (.int .i64 (U : Int)) ∧ ∃ y : Ext w2, w' = y.val) := Lib.hid (fun X => ext_calls (HU.out X.val (HB2.out.trans (X.bl.mono HB2.out.size))))
  clear hb2 e3
  go_wp2_with (fail)
  refine wp_region_ext (by kernel_rfl) (by kernel_rfl) ?_
  repeat (go_big_quiet_step (first | (go_at_call 33; refine HUU.out _)))
  refine wpQuiet_nil ?_
  rintro w3 ⟨⟨_, hb3⟩, rfl⟩
  have hb2 := HB2.out.trans (hb3.mono HB2.out.size)
  go_wp2_with (fail)
  go_ret
  exact ⟨rfl, hb2⟩
set_option maxRecDepth 100000 in
set_option maxHeartbeats 2000000 in
theorem append_ok (L : Lay) (s : DS) (n data : ByteArray) (bd bn bt : Nat) (w : World) (h : DAt w L s) (ok : OkS s) (hn : okN n) (hd : Box w bd (dP L) 24) (hb : Box w bn (.string n) 9) (hbt : Box w bt (.string data) 9) (i : Nat) (hl : look s.dir n = some i) (hr : ¬ (s.room : Int) - s.used < data.size) :
    Calls Try.prog 32 #[ptrV bd, ptrV bn, ptrV bt] w fun r w' => r = .returned (.int .i64 (agAppend s n data)) ∧ Below w.heap.size w w' := by
  have c0 := hd.cell
  have c1 := hb.cell
  have c2 := hbt.cell
  have l0 := hd.lt
  have l1 := hb.lt
  have l2 := h.lt
  have l3 := hbt.lt
  have e0 := ext_cell c0
  have e1 := ext_cell c1
  have e2 := h.cExt
  unfold ptrV at *
  have hE : agAppend s n data = 0 := by unfold agAppend; rw [if_neg (by simp [hl]), if_neg hr]
  rw [hE]
  have e3 := h.lookExt hn (.pointer (some ⟨L.bk i, 0, none⟩)) (by rw [hl]; rfl)
  have H := Lib.hid h
  have HU := Lib.hid (fun (w' : World) (hb : Below w.heap.size w w') => used_any L s w' (h.below hb) (by have := ok.sum; omega))
  have hub := ok.usedB
  have hrm := ok.rm
  obtain ⟨m, hm⟩ : ∃ m, data.size = m := ⟨_, rfl⟩
  rw [hm] at hr
  have ge1 : -9223372036854775808 ≤ (s.room : Int) - (s.used : Int) := by omega
  have ge2 : (s.room : Int) - (s.used : Int) < 9223372036854775808 := by omega
  clear hrm hub
  generalize s.used = U at *
  clear hE h hl hd hb hbt ok
  unfold dP at *
  go_enter Try.func32, Try.ntmps32
  go_wp2_with (fail)
  refine wp_region_ext (by kernel_rfl) (by kernel_rfl) ?_
  repeat (go_big_quiet_step (fail))
  refine wpQuiet_nil ?_
  rintro w2 ⟨⟨_, hb2⟩, rfl⟩
  have HB2 := Lib.hid hb2
  have c2 := (hb2.cell (p := ⟨bt, 0, none⟩) l3).trans c2
  have c0 := (hb2.cell (p := ⟨bd, 0, none⟩) l0).trans c0
  have a0 := (hb2.cell (p := ⟨L.d, 0, none⟩) l2).trans H.out.c.1
  have hsz := hb2.size
  have l3 : bt < w2.heap.size := by omega
  have l0 : bd < w2.heap.size := by omega
  have l2 : L.d < w2.heap.size := by omega
  have e0 := ext_cell c0
  have e1 := ext_cell c2
  have e2 := ext_cell a0
  have HUU : Hid (∀ X : Ext w2, Calls Try.prog 33 #[.pointer (some ⟨L.d, 0, none⟩)] X.val fun e w' => e = .returned (.int .i64 (U : Int)) ∧ ∃ y : Ext w2, w' = y.val) := Lib.hid (fun X => ext_calls (HU.out X.val (HB2.out.trans (X.bl.mono HB2.out.size))))
  clear hb2 e3
  go_wp2_with (fail)
  refine wp_region_ext (by kernel_rfl) (by kernel_rfl) ?_
  repeat (go_big_quiet_step (first | (go_at_call 33; refine HUU.out _)))
  refine wpQuiet_nil ?_
  rintro w3 ⟨⟨_, hb3⟩, rfl⟩
  have hb2 := HB2.out.trans (hb3.mono HB2.out.size)
  go_wp2_with (fail)
  go_ret
  exact ⟨rfl, hb2⟩
theorem append_in (L : Lay) (s : DS) (n data : ByteArray) (bd bn bt : Nat) (w : World) (h : DAt w L s) (ok : OkS s) (hn : okN n) (hd : Box w bd (dP L) 24) (hb : Box w bn (.string n) 9) (hbt : Box w bt (.string data) 9) :
    Calls Try.prog 32 #[ptrV bd, ptrV bn, ptrV bt] w fun r w' => r = .returned (.int .i64 (agAppend s n data)) ∧ Below w.heap.size w w' := by
  cases hl : look s.dir n with
  | none => exact append_none L s n data bd bn bt w h ok hn hd hb hbt hl
  | some i =>
    by_cases hr : (s.room : Int) - s.used < data.size
    · exact append_full L s n data bd bn bt w h ok hn hd hb hbt i hl hr
    · exact append_ok L s n data bd bn bt w h ok hn hd hb hbt i hl hr
end Go.Proofs.Ytjgiohlkpenipaa
