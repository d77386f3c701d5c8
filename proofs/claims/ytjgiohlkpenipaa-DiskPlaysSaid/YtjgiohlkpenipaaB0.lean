/- What a step of Append, Sync, Rename does. Conditions: as each theorem states them. -/
import Derived.Test.YtjgiohlkpenipaaA9
namespace Go.Proofs.Ytjgiohlkpenipaa
open Go.RowKit Go.Maps
set_option linter.unusedVariables false
set_option linter.unusedSimpArgs false

theorem DoR.ofSet {w w' : World} {L : Lay} {s : DS} {i : Nat} {f : Fl} {r : Ending} (h : DAt w L s) (hi : s.has i) (hr : r = .returned (.tuple #[])) (hf : FileAt w' (L.bk i) f) (hk : Kw (fun b => b = L.bk i) w w') : DoR w L s (s.setF i f) r w' :=
  ⟨hr, L, rfl, h.setFile hi hf hk, hk.mono (fun b _ e => .inr (.inr (.inr (.inl ⟨i, hi, e⟩)))), fun b hb => .inl hb⟩
theorem DAt.drew {w : World} {L : Lay} {s : DS} (h : DAt w L s) : DAt w.drew L s := h.below (Below.refl _ _).drew
set_option maxRecDepth 100000 in
set_option maxHeartbeats 2000000 in
theorem append_do (L : Lay) (s : DS) (n data : ByteArray) (bd bn bt : Nat) (i : Nat) (w : World) (h : DAt w L s) (ok : OkS s) (hn : okN n) (hds : data.size ≤ 2000) (hl : look s.dir n = some i) (hd : Box w bd (dP L) 24) (hb : Box w bn (.string n) 9) (hbt : Box w bt (.string data) 9) :
    Calls Try.prog 34 #[ptrV bd, ptrV bn, ptrV bt] w (DoR w L s (s.setF i ⟨(s.file i).data ++ data, (s.file i).sure⟩)) := by
  have c0 := hd.cell
  have c1 := hb.cell
  have c2 := hbt.cell
  have l0 := hd.lt
  have l1 := hb.lt
  have l2 := h.lt
  have l3 := hbt.lt
  have H := Lib.hid h
  have hi : s.has i := .inl ⟨n, look_some hl⟩
  have HI := Lib.hid hi
  have c3 := h.c.2.2.2.2.1
  have hfa := (h.file i hi).1
  have c4 := hfa.cells.1
  have f4 := hfa.frozen 0
  have l4 := hfa.lt
  have HF := Lib.hid hfa
  have hsz1 : (s.file i).data.size + data.size ≤ 3000000000 := by
    have h1 := ok.fs i
    have h2 := ok.st
    omega
  obtain ⟨D, hD⟩ := h.drew.dirm
  have hlk := hD.look hn
  rw [hl] at hlk
  unfold optV at hlk
  dsimp only at hlk
  clear h hd hb hbt hD hfa hl hi
  unfold dP ptrV at *
  generalize (s.file i) = fl at *
  have hcat : ¬ 9223372036854775807 < fl.data.size + data.size := by omega
  go_enter Try.func34, Try.ntmps34
  go_wp2_with (fail)
  go_still_tail 11, (by kernel_rfl)
  change wpList _ _ _ _ _ w.drew
  have f4 : w.drew.frozen? ⟨L.bk i, 0, none⟩ = false := f4
  have c4 : w.drew.cell? ⟨L.bk i, 0, none⟩ = some (.string fl.data) := c4
  have l4 : L.bk i < w.drew.heap.size := l4
  have HF : FileAt w.drew (L.bk i) fl := HF.out
  have HKW : Kw (fun b => b = L.bk i) w w.drew := (Kw.refl _ _).drew
  have HFF := Lib.hid (HF.setData (fl.data ++ data))
  have HKK := Lib.hid (HKW.setCell (p := ⟨L.bk i, 0, none⟩) rfl (.string (fl.data ++ data)))
  clear HF HKW hlk c0 c1 c2 c3
  generalize w.drew = w1 at *
  go_wp2_with (fail)
  go_end0
  exact DoR.ofSet H.out HI.out rfl HFF.out HKK.out
set_option maxRecDepth 100000 in
set_option maxHeartbeats 2000000 in
theorem sync_do (L : Lay) (s : DS) (n : ByteArray) (bd bn : Nat) (i : Nat) (w : World) (h : DAt w L s) (ok : OkS s) (hn : okN n) (hl : look s.dir n = some i) (hd : Box w bd (dP L) 24) (hb : Box w bn (.string n) 9) :
    Calls Try.prog 36 #[ptrV bd, ptrV bn] w (DoR w L s (s.setF i ⟨(s.file i).data, (s.file i).data.size⟩)) := by
  have c0 := hd.cell
  have c1 := hb.cell
  have l0 := hd.lt
  have l1 := hb.lt
  have l2 := h.lt
  have H := Lib.hid h
  have hi : s.has i := .inl ⟨n, look_some hl⟩
  have HI := Lib.hid hi
  have c3 := h.c.2.2.2.2.1
  have hfa := (h.file i hi).1
  have c4 := hfa.cells.1
  have c5 := hfa.cells.2
  have f4 := hfa.frozen 1
  have l4 := hfa.lt
  have HF := Lib.hid hfa
  have hsz1 : (s.file i).data.size ≤ 3000000000 := by
    have h1 := ok.fs i
    have h2 := ok.st
    omega
  obtain ⟨D, hD⟩ := h.drew.dirm
  have hlk := hD.look hn
  rw [hl] at hlk
  unfold optV at hlk
  dsimp only at hlk
  clear h hd hb hD hfa hl hi
  unfold dP ptrV at *
  generalize (s.file i) = fl at *
  obtain ⟨m, hm⟩ : ∃ m, fl.data.size = m := ⟨_, rfl⟩
  have HFF0 := HF.out.setSure m
  rw [hm] at hsz1
  go_enter Try.func36, Try.ntmps36
  go_wp2_with (fail)
  go_still_tail 16, (by kernel_rfl)
  change wpList _ _ _ _ _ w.drew
  have f4 : w.drew.frozen? ⟨L.bk i, 1, none⟩ = false := f4
  have c5 : w.drew.cell? ⟨L.bk i, 1, none⟩ = some (.int .i64 fl.sure) := c5
  have l4 : L.bk i < w.drew.heap.size := l4
  have HF : FileAt w.drew (L.bk i) fl := HF.out
  have HKW : Kw (fun b => b = L.bk i) w w.drew := (Kw.refl _ _).drew
  have HFF := Lib.hid (HF.setSure m)
  have HKK := Lib.hid (HKW.setCell (p := ⟨L.bk i, 1, none⟩) rfl (.int .i64 m))
  have HM := Lib.hid hm
  clear HF HKW hlk c0 c1 c3 HFF0 hm
  generalize w.drew = w1 at *
  go_wp2_with (fail)
  go_end0
  rw [HM.out]
  exact DoR.ofSet H.out HI.out rfl HFF.out HKK.out
end Go.Proofs.Ytjgiohlkpenipaa
