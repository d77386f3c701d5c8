/- What a step does. Conditions: as each theorem states them. -/
import Derived.Test.YtjgiohlkpenipaaA8
namespace Go.Proofs.Ytjgiohlkpenipaa
open Go.RowKit Go.Maps
set_option linter.unusedVariables false
set_option linter.unusedSimpArgs false

/-- A disk of which a file is another. -/
def DS.setF (s : DS) (i : Nat) (f : Fl) : DS := { s with files := s.files.set i f }
theorem file_set {s : DS} {i : Nat} {f : Fl} (h : i < s.files.length) (j : Nat) : (s.setF i f).file j = if j = i then f else s.file j := by
  unfold DS.setF DS.file
  dsimp only
  rw [List.getD_eq_getElem?_getD, List.getD_eq_getElem?_getD, List.getElem?_set]
  by_cases e : i = j
  · subst e
    simp [h]
  · rw [if_neg e, if_neg (fun e' => e e'.symm)]
theorem DAt.setFile {w w' : World} {L : Lay} {s : DS} (h : DAt w L s) {i : Nat} (hi : s.has i) {f : Fl} (hf : FileAt w' (L.bk i) f) (hk : Kw (fun b => b = L.bk i) w w') : DAt w' L (s.setF i f) := by
  obtain ⟨p1, p2, p3, p4⟩ := h.apart
  obtain ⟨q1, q2, q3⟩ := p3 i hi
  refine ⟨(hk.block L.d h.lt (fun e => q1 e.symm)).trans h.cells, ?_, ?_, own_kw h.row hk (fun g hg => (p4 g hg).2.2.2 i hi), fun j hj => ?_, h.inj, h.mdq, h.okw⟩
  · obtain ⟨D, hD⟩ := h.dirm
    exact ⟨D, hD.kw hk (fun e => q2 e.symm)⟩
  · obtain ⟨D, hD⟩ := h.keptm
    exact ⟨D, hD.kw hk (fun e => q3 e.symm)⟩
  · rw [file_set (h.file i hi).2]
    have hj : s.has j := hj
    refine ⟨?_, by simpa [DS.setF] using (h.file j hj).2⟩
    by_cases e : j = i
    · subst e
      rw [if_pos rfl]
      exact hf
    · rw [if_neg e]
      exact (h.file j hj).1.kw hk (fun e' => e (h.inj j i hj hi e'))
/-- A disk with one file more, which no name has yet. -/
def DS.grow (s : DS) : DS := { s with files := s.files ++ [zeroF] }
def Lay.grow (L : Lay) (k b : Nat) : Lay := { L with bk := fun i => if i = k then b else L.bk i }
theorem file_grow (s : DS) (j : Nat) : s.grow.file j = s.file j := by
  unfold DS.grow DS.file
  dsimp only
  rw [List.getD_eq_getElem?_getD, List.getD_eq_getElem?_getD]
  rcases Nat.lt_or_ge j s.files.length with h | h
  · rw [List.getElem?_append_left h]
  · rw [List.getElem?_append_right h, List.getElem?_eq_none h]
    cases j - s.files.length with
    | zero => rfl
    | succ k => rfl
theorem DAt.grow {w : World} {L : Lay} {s : DS} (h : DAt w L s) (b : Nat) : DAt w (L.grow s.files.length b) s.grow := by
  have hne : ∀ i, s.has i → (L.grow s.files.length b).bk i = L.bk i := fun i hi => if_neg (Nat.ne_of_lt (h.file i hi).2)
  have hw : wcells (L.grow s.files.length b).bk s.waits = wcells L.bk s.waits := by
    unfold wcells
    rw [List.flatMap_def, List.flatMap_def]
    congr 1
    apply List.map_congr_left
    intro c hc
    have : chP (L.grow s.files.length b).bk c = chP L.bk c := by
      unfold chP
      by_cases e : c.to = ByteArray.empty
      · rw [if_pos e, if_pos e]
      · rw [if_neg e, if_neg e, hne c.fi (.inr (.inr ⟨c, hc, e, rfl⟩))]
    rw [this]
  refine ⟨h.cells, ?_, ?_, ?_, fun i hi => ?_, fun i j hi hj e => ?_, h.mdq, h.okw⟩
  · obtain ⟨D, hD⟩ := h.dirm
    exact ⟨D, hD.fn (fun p hp => hne p.2 (.inl ⟨p.1, hp⟩))⟩
  · obtain ⟨D, hD⟩ := h.keptm
    exact ⟨D, hD.fn (fun p hp => hne p.2 (.inr (.inl ⟨p.1, hp⟩)))⟩
  · have h5 := h.row
    rw [← hw] at h5
    exact h5
  · have hi : s.has i := hi
    rw [hne i hi, file_grow]
    exact ⟨(h.file i hi).1, by have := (h.file i hi).2; show i < (s.files ++ [zeroF]).length; rw [List.length_append]; omega⟩
  · have hi : s.has i := hi
    have hj : s.has j := hj
    rw [hne i hi, hne j hj] at e
    exact h.inj i j hi hj e
theorem DoR.ofChg {w w1 w' : World} {L L1 : Lay} {s s1 s' : DS} {c : Ch} {v' : Value} {r : Ending} (h : DAt w L s) (hL : L1.d = L.d ∧ L1.md = L.md ∧ L1.mq = L.mq ∧ L1.v = L.v) (hb : Below w.heap.size w w1) (hs' : s1.chg c = s')
    (hr : r = .returned (.tuple #[])) (hd : DAt w' { L1 with v := v' } (s1.chg c)) (hk : Kw (fun b => b = L1.d ∨ b = L1.md ∨ L1.v.ownBlock = some b) w1 w') (hv : ∀ g, v'.ownBlock = some g → L1.v.ownBlock = some g ∨ w1.heap.size ≤ g)
    (hf : ∀ i, (s1.chg c).has i → (s.has i ∧ L1.bk i = L.bk i) ∨ w.heap.size ≤ L1.bk i) : DoR w L s s' r w' := by
  obtain ⟨e1, e2, e3, e4⟩ := hL
  subst hs'
  refine ⟨hr, { L1 with v := v' }, e1, hd, (Kw.ofBelow (S := Foot L s) hb).trans (hk.mono (fun b _ hb => ?_)), fun b hb' => ?_⟩
  · rcases hb with e | e | e
    · exact .inl (e.trans e1)
    · exact .inr (.inl (e.trans e2))
    · rw [e4] at e
      exact .inr (.inr (.inr (.inr e)))
  · rcases hb' with e | e | e | ⟨i, hi, e⟩ | e
    · exact .inl (.inl (e.trans e1))
    · exact .inl (.inr (.inl (e.trans e2)))
    · exact .inl (.inr (.inr (.inl (e.trans e3))))
    · have e : b = L1.bk i := e
      rcases hf i hi with ⟨h1, h2⟩ | h1
      · exact .inl (.inr (.inr (.inr (.inl ⟨i, h1, e.trans h2⟩))))
      · exact .inr (e ▸ h1)
    · rcases hv b e with e | e
      · rw [e4] at e
        exact .inl (.inr (.inr (.inr (.inr e))))
      · exact .inr (Nat.le_trans hb.size e)
theorem okN_empty : okN ByteArray.empty := by unfold okN; decide
set_option maxRecDepth 100000 in
set_option maxHeartbeats 1000000 in
theorem remove_do (L : Lay) (s : DS) (n : ByteArray) (bd bn : Nat) (w : World) (h : DAt w L s) (ok : OkS s) (hn : okN n) (hd : Box w bd (dP L) 24) (hb : Box w bn (.string n) 9) :
    Calls Try.prog 71 #[ptrV bd, ptrV bn] w (DoR w L s (s.chg ⟨n, ByteArray.empty, 0⟩)) := by
  have c0 := hd.cell
  have c1 := hb.cell
  have l0 := hd.lt
  have l1 := hb.lt
  have H := Lib.hid h
  have hce := changes_any L s ⟨n, ByteArray.empty, 0⟩ w h hn okN_empty (by have := ok.dl; have := ok.st; unfold maxLen; omega) (by have := ok.kl; have := ok.st; omega) (fun e => absurd rfl e)
  have HC := Lib.hid hce
  unfold chV chP at HC
  dsimp only at HC
  rw [if_pos rfl] at HC
  clear h hce ok hd hb
  unfold dP ptrV at *
  go_enter Try.func71, Try.ntmps71
  go_wp2_with (fail)
  refine HC.out.mono ?_
  rintro r w' ⟨rfl, v', hd', hk', hv'⟩
  go_wp2_with (fail)
  go_end0
  exact DoR.ofChg H.out ⟨rfl, rfl, rfl, rfl⟩ (Below.refl _ _) rfl rfl hd' hk' hv' (fun i hi => by
    rcases has_chg hi with h | ⟨h, _⟩
    · exact .inl ⟨h, rfl⟩
    · exact absurd rfl h)
set_option maxRecDepth 100000 in
set_option maxHeartbeats 1000000 in
theorem create_do (L : Lay) (s : DS) (n : ByteArray) (bd bn : Nat) (w : World) (h : DAt w L s) (ok : OkS s) (hn : named n) (hd : Box w bd (dP L) 24) (hb : Box w bn (.string n) 9) :
    Calls Try.prog 30 #[ptrV bd, ptrV bn] w (DoR w L s (s.grow.chg ⟨ByteArray.empty, n, s.files.length⟩)) := by
  have c0 := hd.cell
  have c1 := hb.cell
  have l0 := hd.lt
  have l1 := hb.lt
  have H := Lib.hid h
  have hb0 := bl_alloc (Below.refl w.heap.size w) (Obj.cells #[.string ByteArray.empty, .int .i64 0] 66)
  have h1 := (h.below hb0).grow w.heap.size
  have hfa : FileAt (w.alloc (Obj.cells #[.string ByteArray.empty, .int .i64 0] 66)) w.heap.size zeroF := new_heap w _
  have hce := changes_any (L.grow s.files.length w.heap.size) s.grow ⟨ByteArray.empty, n, s.files.length⟩ _ h1 okN_empty (okN_named hn) (by have := ok.dl; have := ok.st; show s.dir.length < maxLen; unfold maxLen; omega) (by have := ok.kl; have := ok.st; show s.waits.length ≤ 1000000; omega) (fun _ => by
    have e1 : (L.grow s.files.length w.heap.size).bk s.files.length = w.heap.size := if_pos rfl
    have e2 : s.grow.file s.files.length = zeroF := by
      rw [file_grow]
      unfold DS.file
      rw [List.getD_eq_getElem?_getD, List.getElem?_eq_none (Nat.le_refl _)]
      rfl
    refine ⟨by rw [e1, e2]; exact hfa, by show _ < (s.files ++ [zeroF]).length; rw [List.length_append]; simp, fun j hj e => ?_⟩
    have hj : s.has j := hj
    rw [e1] at e
    have h3 := (h.file j hj)
    have e4 : (L.grow s.files.length w.heap.size).bk j = L.bk j := if_neg (Nat.ne_of_lt h3.2)
    rw [e4] at e
    have := h3.1.lt
    omega)
  have HC := Lib.hid hce
  unfold chV chP dP at HC
  dsimp only at HC
  rw [if_neg (named_ne hn)] at HC
  have e1 : (L.grow s.files.length w.heap.size).bk s.files.length = w.heap.size := if_pos rfl
  rw [e1] at HC
  have e2 : (L.grow s.files.length w.heap.size).d = L.d := rfl
  rw [e2] at HC
  clear h hce ok hd hb h1 hfa
  unfold dP ptrV at *
  go_enter Try.func30, Try.ntmps30
  go_wp2_with (fail)
  refine HC.out.mono ?_
  rintro r w' ⟨rfl, v', hd', hk', hv'⟩
  go_wp2_with (fail)
  go_end0
  refine DoR.ofChg (L1 := L.grow s.files.length w.heap.size) H.out ⟨rfl, rfl, rfl, rfl⟩ hb0 rfl rfl hd' hk' hv' (fun i hi => ?_)
  rcases has_chg hi with h | ⟨_, h⟩
  · have h : s.has i := h
    exact .inl ⟨h, if_neg (Nat.ne_of_lt (H.out.file i h).2)⟩
  · have h : s.files.length = i := h
    subst h
    rw [e1]
    exact .inr (Nat.le_refl _)
end Go.Proofs.Ytjgiohlkpenipaa
