/- Contracts of step. Conditions: as each theorem states them. -/
import Derived.Test.YtjgiohlkpenipaaA4
namespace Go.Proofs.Ytjgiohlkpenipaa
open Go.RowKit Go.Maps
set_option linter.unusedVariables false
set_option linter.unusedSimpArgs false

/-- A disk behind the count of a step. -/
def DS.tick (s : DS) : DS := { s with fuse := s.fuse - 1, steps := s.steps + 1 }
def DS.gone (s : DS) : DS := { s with fuse := 0, down := true }
/-- A step: what is told, and the disk behind it. -/
def DS.step (s : DS) (e : Int) (f : DS → DS) : Int × DS := if s.down then (9, s) else if e ≠ 0 then (e, s) else if s.fuse = 1 then (9, s.gone) else (0, f s.tick)
/-- A disk's call has answered, and left its disk so. -/
def OpR (w : World) (L : Lay) (s : DS) (res : Int × DS) (r : Ending) (w' : World) : Prop :=
  r = .returned (.int .i64 res.1) ∧ ∃ L', L'.d = L.d ∧ DAt w' L' res.2 ∧ Kw (Foot L s) w w' ∧ ∀ b, Foot L' res.2 b → Foot L s b ∨ w.heap.size ≤ b
/-- What is done has left the disk so. -/
def DoR (w : World) (L : Lay) (s s' : DS) (r : Ending) (w' : World) : Prop :=
  r = .returned (.tuple #[]) ∧ ∃ L', L'.d = L.d ∧ DAt w' L' s' ∧ Kw (Foot L s) w w' ∧ ∀ b, Foot L' s' b → Foot L s b ∨ w.heap.size ≤ b
theorem DAt.set2 {w : World} {L : Lay} {s : DS} (h : DAt w L s) (a b : Value) (i j : Nat) (s' : DS) (hs : ((dcells L s).setIfInBounds i a).setIfInBounds j b = dcells L s') (hd : s'.dir = s.dir) (hk : s'.kept = s.kept) (hw : s'.waits = s.waits) (hf : s'.files = s.files) :
    DAt ((w.setCell ⟨L.d, i, none⟩ a).setCell ⟨L.d, j, none⟩ b) L s' := by
  have h60 := set_heap (i := j) (v := b) (set_heap (i := i) (v := a) h.cells)
  rw [hs] at h60
  have k : Kw (fun b => b = L.d) w ((w.setCell ⟨L.d, i, none⟩ a).setCell ⟨L.d, j, none⟩ b) := ((Kw.refl (fun b => b = L.d) w).setCell (p := ⟨L.d, i, none⟩) rfl a).setCell (p := ⟨L.d, j, none⟩) rfl b
  obtain ⟨p1, p2, p3, p4⟩ := h.apart
  have hh : ∀ i, s'.has i → s.has i := fun i hi => by
    unfold DS.has at *
    rw [hd, hk, hw] at hi
    exact hi
  refine ⟨h60, ?_, ?_, ?_, fun i hi => ?_, fun i j hi hj => h.inj i j (hh i hi) (hh j hj), h.mdq, hw ▸ h.okw⟩
  · obtain ⟨D, hD⟩ := h.dirm
    rw [hd]
    exact ⟨D, hD.kw k (fun e => p1 e.symm)⟩
  · obtain ⟨D, hD⟩ := h.keptm
    rw [hk]
    exact ⟨D, hD.kw k (fun e => p2 e.symm)⟩
  · rw [hw]
    exact own_kw h.row k (fun g hg => (p4 g hg).1)
  · have hi := hh i hi
    unfold DS.file
    rw [hf]
    exact ⟨(h.file i hi).1.kw k (p3 i hi).1, (h.file i hi).2⟩
theorem DAt.set1 {w : World} {L : Lay} {s : DS} (h : DAt w L s) (a : Value) (i : Nat) (s' : DS) (hs : (dcells L s).setIfInBounds i a = dcells L s') (hd : s'.dir = s.dir) (hk : s'.kept = s.kept) (hw : s'.waits = s.waits) (hf : s'.files = s.files) :
    DAt (w.setCell ⟨L.d, i, none⟩ a) L s' := by
  have h60 := set_heap (i := i) (v := a) h.cells
  rw [hs] at h60
  have k : Kw (fun b => b = L.d) w (w.setCell ⟨L.d, i, none⟩ a) := (Kw.refl (fun b => b = L.d) w).setCell (p := ⟨L.d, i, none⟩) rfl a
  obtain ⟨p1, p2, p3, p4⟩ := h.apart
  have hh : ∀ i, s'.has i → s.has i := fun i hi => by
    unfold DS.has at *
    rw [hd, hk, hw] at hi
    exact hi
  refine ⟨h60, ?_, ?_, ?_, fun i hi => ?_, fun i j hi hj => h.inj i j (hh i hi) (hh j hj), h.mdq, hw ▸ h.okw⟩
  · obtain ⟨D, hD⟩ := h.dirm
    rw [hd]
    exact ⟨D, hD.kw k (fun e => p1 e.symm)⟩
  · obtain ⟨D, hD⟩ := h.keptm
    rw [hk]
    exact ⟨D, hD.kw k (fun e => p2 e.symm)⟩
  · rw [hw]
    exact own_kw h.row k (fun g hg => (p4 g hg).1)
  · have hi := hh i hi
    unfold DS.file
    rw [hf]
    exact ⟨(h.file i hi).1.kw k (p3 i hi).1, (h.file i hi).2⟩
theorem foot_eq {L : Lay} {s s' : DS} (hd : s'.dir = s.dir) (hk : s'.kept = s.kept) (hw : s'.waits = s.waits) {b : Nat} (h : Foot L s' b) : Foot L s b := by
  unfold Foot DS.has at *
  rw [hd, hk, hw] at h
  exact h
theorem OpR.same {w w' : World} {L : Lay} {s : DS} {e : Int} {r : Ending} (h : DAt w L s) (hb : Below w.heap.size w w') (hr : r = .returned (.int .i64 e)) : OpR w L s (e, s) r w' :=
  ⟨hr, L, rfl, h.below hb, Kw.ofBelow hb, fun b hb => .inl hb⟩
theorem OpR.did {w w1 w2 w' : World} {L : Lay} {s s1 s' : DS} {r : Ending} (h : DAt w L s) (hd : s1.dir = s.dir) (hk : s1.kept = s.kept) (hw : s1.waits = s.waits) (hb : Below w.heap.size w w1) (k : Kw (fun b => b = L.d) w1 w2) (hq : DoR w2 L s1 s' r w') {a : Value} (ha : a = .int .i64 0) : OpR w L s (0, s') (.returned a) w' := by
  obtain ⟨_, L', e, h1, h2, h3⟩ := hq
  have hsz : w.heap.size ≤ w2.heap.size := Nat.le_trans hb.size k.size
  refine ⟨by rw [ha], L', e, h1, ((Kw.ofBelow (S := Foot L s) hb).trans (k.mono (fun b _ e => .inl e))).trans (h2.mono (fun b _ hf => foot_eq hd hk hw hf)), fun b hb => ?_⟩
  rcases h3 b hb with h3 | h3
  · exact .inl (foot_eq hd hk hw h3)
  · exact .inr (by omega)
set_option maxRecDepth 100000 in
set_option maxHeartbeats 4000000 in
theorem step_create (L : Lay) (s : DS) (p0 p1 q0 q1 : Nat) (e : Int) (f : DS → DS) (w : World) (h : DAt w L s) (hst : s.steps ≤ 1000000) (hfu : s.fuse < 9223372036854775808)
    (HAg : ∀ w', Below w.heap.size w w' → s.down = false → Calls Try.prog 28 #[ptrV p0, ptrV p1] w' fun r w'' => r = .returned (.int .i64 e) ∧ Below w'.heap.size w' w'')
    (HDo : ∀ w1 w2, Below w.heap.size w w1 → Kw (fun b => b = L.d) w1 w2 → DAt w2 L s.tick → s.down = false → e = 0 → Calls Try.prog 30 #[ptrV q0, ptrV q1] w2 (DoR w2 L s.tick (f s.tick))) :
    Calls Try.prog 27 #[dP L, .func (.func 28) #[] #[ptrV p0, ptrV p1], .func (.func 30) #[] #[ptrV q0, ptrV q1]] w (OpR w L s (s.step e f)) := by
  have HR := Lib.hid (fun w' (hb : Below w.heap.size w w') => ready_any L s w' (h.below hb))
  have H := Lib.hid h
  have HAG := Lib.hid HAg
  have HDO := Lib.hid HDo
  have hl := h.lt
  clear h HAg HDo
  unfold dP ptrV at *
  go_enter Try.func27, Try.ntmps27
  go_wp2_with (fail)
  refine (HR.out w (Below.refl _ _)).mono ?_
  rintro r w' ⟨rfl, rfl⟩
  cases hdn : s.down with
  | true =>
    have HDN := Lib.hid hdn
    clear hdn
    rw [if_pos rfl]
    go_wp2_with (fail)
    go_ret
    unfold DS.step
    rw [if_pos HDN.out]
    exact OpR.same H.out (Below.refl _ _) rfl
  | false =>
    have HDN := Lib.hid hdn
    clear hdn
    rw [if_neg (by decide)]
    go_wp2_with (fail)
    refine (HAG.out w (Below.refl _ _) HDN.out).mono ?_
    rintro r w1 ⟨rfl, hb1⟩
    have HB1 := Lib.hid hb1
    have H1 := Lib.hid (H.out.below hb1)
    have hl1 := Nat.lt_of_lt_of_le hl hb1.size
    clear hb1
    by_cases he : e = 0
    · subst he
      obtain ⟨a0, a1, a2, a3, a4, a5, a6⟩ := H1.out.c
      have f1 := H1.out.fz 1
      have f2 := H1.out.fz 2
      have f3 := H1.out.fz 3
      by_cases hf1 : s.fuse = 1
      · rw [hf1] at a2
        have a2 : w1.cell? ⟨L.d, 2, none⟩ = some (.int .i64 1) := a2
        go_wp2_with (fail)
        go_ret
        unfold DS.step
        rw [HDN.out, if_neg (by decide), if_neg (by decide), if_pos hf1]
        refine ⟨rfl, L, rfl, H1.out.set2 _ _ _ _ s.gone rfl rfl rfl rfl rfl, ?_, fun b hb => .inl (foot_eq (s := s) rfl rfl rfl hb)⟩
        exact ((Kw.ofBelow (S := Foot L s) HB1.out).setCell (p := ⟨L.d, _, none⟩) (.inl rfl) _).setCell (p := ⟨L.d, _, none⟩) (.inl rfl) _
      · by_cases hf0 : 0 < s.fuse
        · obtain ⟨k, hk⟩ : ∃ k, s.fuse = k + 2 := ⟨s.fuse - 2, by omega⟩
          have HKK := Lib.hid hk
          have g1 : (0 : Int) < (s.fuse : Int) := by omega
          have g2 : ¬ (s.fuse : Int) = 1 := by omega
          have g3 : (s.fuse : Int) - 1 < 9223372036854775808 := by omega
          have g4 : -9223372036854775808 ≤ (s.fuse : Int) - 1 := by omega
          have HT : Hid (DAt ((w1.setCell ⟨L.d, 2, none⟩ (.int .i64 ((s.fuse : Int) - 1))).setCell ⟨L.d, 1, none⟩ (.int .i64 ((s.steps : Int) + 1))) L s.tick) := Lib.hid (by
            refine H1.out.set2 _ _ _ _ s.tick ?_ rfl rfl rfl rfl
            have e1 : ((s.fuse - 1 : Nat) : Int) = (s.fuse : Int) - 1 := by omega
            unfold DS.tick dcells
            dsimp only
            rw [e1]
            simp [List.setIfInBounds_toArray])
          have HKT : Hid (Kw (fun b => b = L.d) w1 ((w1.setCell ⟨L.d, 2, none⟩ (.int .i64 ((s.fuse : Int) - 1))).setCell ⟨L.d, 1, none⟩ (.int .i64 ((s.steps : Int) + 1)))) := Lib.hid (((Kw.refl (fun b => b = L.d) w1).setCell (p := ⟨L.d, 2, none⟩) rfl _).setCell (p := ⟨L.d, 1, none⟩) rfl _)
          clear hk
          go_wp2_with (fail)
          refine (HDO.out w1 _ HB1.out HKT.out HT.out HDN.out (by first | rfl | trivial)).mono ?_
          rintro r w3 hq
          obtain rfl := hq.1
          have HQ := Lib.hid hq
          clear hq
          go_wp2_with (fail)
          go_ret
          unfold DS.step
          rw [HDN.out, if_neg (by decide), if_neg (by decide), if_neg hf1]
          exact OpR.did H.out (s1 := s.tick) rfl rfl rfl HB1.out HKT.out HQ.out rfl
        · have hz : s.fuse = 0 := by omega
          rw [hz] at a2
          have a2 : w1.cell? ⟨L.d, 2, none⟩ = some (.int .i64 0) := a2
          have HT : Hid (DAt (w1.setCell ⟨L.d, 1, none⟩ (.int .i64 ((s.steps : Int) + 1))) L s.tick) := Lib.hid (by
            refine H1.out.set1 _ _ s.tick ?_ rfl rfl rfl rfl
            unfold DS.tick dcells
            dsimp only
            rw [hz]
            simp [List.setIfInBounds_toArray])
          have HKT : Hid (Kw (fun b => b = L.d) w1 (w1.setCell ⟨L.d, 1, none⟩ (.int .i64 ((s.steps : Int) + 1)))) := Lib.hid ((Kw.refl (fun b => b = L.d) w1).setCell (p := ⟨L.d, 1, none⟩) rfl _)
          have HZ := Lib.hid hz
          clear hz
          go_wp2_with (fail)
          refine (HDO.out w1 _ HB1.out HKT.out HT.out HDN.out (by first | rfl | trivial)).mono ?_
          rintro r w3 hq
          obtain rfl := hq.1
          have HQ := Lib.hid hq
          clear hq
          go_wp2_with (fail)
          go_ret
          unfold DS.step
          rw [HDN.out, if_neg (by decide), if_neg (by decide), if_neg hf1]
          exact OpR.did H.out (s1 := s.tick) rfl rfl rfl HB1.out HKT.out HQ.out rfl
    · go_wp2_with (fail)
      go_ret
      unfold DS.step
      rw [HDN.out, if_neg (by decide), if_pos he]
      exact OpR.same H.out HB1.out rfl
set_option maxRecDepth 100000 in
set_option maxHeartbeats 4000000 in
theorem step_append (L : Lay) (s : DS) (p0 p1 p2 q0 q1 q2 : Nat) (e : Int) (f : DS → DS) (w : World) (h : DAt w L s) (hst : s.steps ≤ 1000000) (hfu : s.fuse < 9223372036854775808)
    (HAg : ∀ w', Below w.heap.size w w' → s.down = false → Calls Try.prog 32 #[ptrV p0, ptrV p1, ptrV p2] w' fun r w'' => r = .returned (.int .i64 e) ∧ Below w'.heap.size w' w'')
    (HDo : ∀ w1 w2, Below w.heap.size w w1 → Kw (fun b => b = L.d) w1 w2 → DAt w2 L s.tick → s.down = false → e = 0 → Calls Try.prog 34 #[ptrV q0, ptrV q1, ptrV q2] w2 (DoR w2 L s.tick (f s.tick))) :
    Calls Try.prog 27 #[dP L, .func (.func 32) #[] #[ptrV p0, ptrV p1, ptrV p2], .func (.func 34) #[] #[ptrV q0, ptrV q1, ptrV q2]] w (OpR w L s (s.step e f)) := by
  have HR := Lib.hid (fun w' (hb : Below w.heap.size w w') => ready_any L s w' (h.below hb))
  have H := Lib.hid h
  have HAG := Lib.hid HAg
  have HDO := Lib.hid HDo
  have hl := h.lt
  clear h HAg HDo
  unfold dP ptrV at *
  go_enter Try.func27, Try.ntmps27
  go_wp2_with (fail)
  refine (HR.out w (Below.refl _ _)).mono ?_
  rintro r w' ⟨rfl, rfl⟩
  cases hdn : s.down with
  | true =>
    have HDN := Lib.hid hdn
    clear hdn
    rw [if_pos rfl]
    go_wp2_with (fail)
    go_ret
    unfold DS.step
    rw [if_pos HDN.out]
    exact OpR.same H.out (Below.refl _ _) rfl
  | false =>
    have HDN := Lib.hid hdn
    clear hdn
    rw [if_neg (by decide)]
    go_wp2_with (fail)
    refine (HAG.out w (Below.refl _ _) HDN.out).mono ?_
    rintro r w1 ⟨rfl, hb1⟩
    have HB1 := Lib.hid hb1
    have H1 := Lib.hid (H.out.below hb1)
    have hl1 := Nat.lt_of_lt_of_le hl hb1.size
    clear hb1
    by_cases he : e = 0
    · subst he
      obtain ⟨a0, a1, a2, a3, a4, a5, a6⟩ := H1.out.c
      have f1 := H1.out.fz 1
      have f2 := H1.out.fz 2
      have f3 := H1.out.fz 3
      by_cases hf1 : s.fuse = 1
      · rw [hf1] at a2
        have a2 : w1.cell? ⟨L.d, 2, none⟩ = some (.int .i64 1) := a2
        go_wp2_with (fail)
        go_ret
        unfold DS.step
        rw [HDN.out, if_neg (by decide), if_neg (by decide), if_pos hf1]
        refine ⟨rfl, L, rfl, H1.out.set2 _ _ _ _ s.gone rfl rfl rfl rfl rfl, ?_, fun b hb => .inl (foot_eq (s := s) rfl rfl rfl hb)⟩
        exact ((Kw.ofBelow (S := Foot L s) HB1.out).setCell (p := ⟨L.d, _, none⟩) (.inl rfl) _).setCell (p := ⟨L.d, _, none⟩) (.inl rfl) _
      · by_cases hf0 : 0 < s.fuse
        · obtain ⟨k, hk⟩ : ∃ k, s.fuse = k + 2 := ⟨s.fuse - 2, by omega⟩
          have HKK := Lib.hid hk
          have g1 : (0 : Int) < (s.fuse : Int) := by omega
          have g2 : ¬ (s.fuse : Int) = 1 := by omega
          have g3 : (s.fuse : Int) - 1 < 9223372036854775808 := by omega
          have g4 : -9223372036854775808 ≤ (s.fuse : Int) - 1 := by omega
          have HT : Hid (DAt ((w1.setCell ⟨L.d, 2, none⟩ (.int .i64 ((s.fuse : Int) - 1))).setCell ⟨L.d, 1, none⟩ (.int .i64 ((s.steps : Int) + 1))) L s.tick) := Lib.hid (by
            refine H1.out.set2 _ _ _ _ s.tick ?_ rfl rfl rfl rfl
            have e1 : ((s.fuse - 1 : Nat) : Int) = (s.fuse : Int) - 1 := by omega
            unfold DS.tick dcells
            dsimp only
            rw [e1]
            simp [List.setIfInBounds_toArray])
          have HKT : Hid (Kw (fun b => b = L.d) w1 ((w1.setCell ⟨L.d, 2, none⟩ (.int .i64 ((s.fuse : Int) - 1))).setCell ⟨L.d, 1, none⟩ (.int .i64 ((s.steps : Int) + 1)))) := Lib.hid (((Kw.refl (fun b => b = L.d) w1).setCell (p := ⟨L.d, 2, none⟩) rfl _).setCell (p := ⟨L.d, 1, none⟩) rfl _)
          clear hk
          go_wp2_with (fail)
          refine (HDO.out w1 _ HB1.out HKT.out HT.out HDN.out (by first | rfl | trivial)).mono ?_
          rintro r w3 hq
          obtain rfl := hq.1
          have HQ := Lib.hid hq
          clear hq
          go_wp2_with (fail)
          go_ret
          unfold DS.step
          rw [HDN.out, if_neg (by decide), if_neg (by decide), if_neg hf1]
          exact OpR.did H.out (s1 := s.tick) rfl rfl rfl HB1.out HKT.out HQ.out rfl
        · have hz : s.fuse = 0 := by omega
          rw [hz] at a2
          have a2 : w1.cell? ⟨L.d, 2, none⟩ = some (.int .i64 0) := a2
          have HT : Hid (DAt (w1.setCell ⟨L.d, 1, none⟩ (.int .i64 ((s.steps : Int) + 1))) L s.tick) := Lib.hid (by
            refine H1.out.set1 _ _ s.tick ?_ rfl rfl rfl rfl
            unfold DS.tick dcells
            dsimp only
            rw [hz]
            simp [List.setIfInBounds_toArray])
          have HKT : Hid (Kw (fun b => b = L.d) w1 (w1.setCell ⟨L.d, 1, none⟩ (.int .i64 ((s.steps : Int) + 1)))) := Lib.hid ((Kw.refl (fun b => b = L.d) w1).setCell (p := ⟨L.d, 1, none⟩) rfl _)
          have HZ := Lib.hid hz
          clear hz
          go_wp2_with (fail)
          refine (HDO.out w1 _ HB1.out HKT.out HT.out HDN.out (by first | rfl | trivial)).mono ?_
          rintro r w3 hq
          obtain rfl := hq.1
          have HQ := Lib.hid hq
          clear hq
          go_wp2_with (fail)
          go_ret
          unfold DS.step
          rw [HDN.out, if_neg (by decide), if_neg (by decide), if_neg hf1]
          exact OpR.did H.out (s1 := s.tick) rfl rfl rfl HB1.out HKT.out HQ.out rfl
    · go_wp2_with (fail)
      go_ret
      unfold DS.step
      rw [HDN.out, if_neg (by decide), if_pos he]
      exact OpR.same H.out HB1.out rfl
set_option maxRecDepth 100000 in
set_option maxHeartbeats 4000000 in
theorem step_sync (L : Lay) (s : DS) (p0 p1 q0 q1 : Nat) (e : Int) (f : DS → DS) (w : World) (h : DAt w L s) (hst : s.steps ≤ 1000000) (hfu : s.fuse < 9223372036854775808)
    (HAg : ∀ w', Below w.heap.size w w' → s.down = false → Calls Try.prog 65 #[ptrV p0, ptrV p1] w' fun r w'' => r = .returned (.int .i64 e) ∧ Below w'.heap.size w' w'')
    (HDo : ∀ w1 w2, Below w.heap.size w w1 → Kw (fun b => b = L.d) w1 w2 → DAt w2 L s.tick → s.down = false → e = 0 → Calls Try.prog 36 #[ptrV q0, ptrV q1] w2 (DoR w2 L s.tick (f s.tick))) :
    Calls Try.prog 27 #[dP L, .func (.func 65) #[] #[ptrV p0, ptrV p1], .func (.func 36) #[] #[ptrV q0, ptrV q1]] w (OpR w L s (s.step e f)) := by
  have HR := Lib.hid (fun w' (hb : Below w.heap.size w w') => ready_any L s w' (h.below hb))
  have H := Lib.hid h
  have HAG := Lib.hid HAg
  have HDO := Lib.hid HDo
  have hl := h.lt
  clear h HAg HDo
  unfold dP ptrV at *
  go_enter Try.func27, Try.ntmps27
  go_wp2_with (fail)
  refine (HR.out w (Below.refl _ _)).mono ?_
  rintro r w' ⟨rfl, rfl⟩
  cases hdn : s.down with
  | true =>
    have HDN := Lib.hid hdn
    clear hdn
    rw [if_pos rfl]
    go_wp2_with (fail)
    go_ret
    unfold DS.step
    rw [if_pos HDN.out]
    exact OpR.same H.out (Below.refl _ _) rfl
  | false =>
    have HDN := Lib.hid hdn
    clear hdn
    rw [if_neg (by decide)]
    go_wp2_with (fail)
    refine (HAG.out w (Below.refl _ _) HDN.out).mono ?_
    rintro r w1 ⟨rfl, hb1⟩
    have HB1 := Lib.hid hb1
    have H1 := Lib.hid (H.out.below hb1)
    have hl1 := Nat.lt_of_lt_of_le hl hb1.size
    clear hb1
    by_cases he : e = 0
    · subst he
      obtain ⟨a0, a1, a2, a3, a4, a5, a6⟩ := H1.out.c
      have f1 := H1.out.fz 1
      have f2 := H1.out.fz 2
      have f3 := H1.out.fz 3
      by_cases hf1 : s.fuse = 1
      · rw [hf1] at a2
        have a2 : w1.cell? ⟨L.d, 2, none⟩ = some (.int .i64 1) := a2
        go_wp2_with (fail)
        go_ret
        unfold DS.step
        rw [HDN.out, if_neg (by decide), if_neg (by decide), if_pos hf1]
        refine ⟨rfl, L, rfl, H1.out.set2 _ _ _ _ s.gone rfl rfl rfl rfl rfl, ?_, fun b hb => .inl (foot_eq (s := s) rfl rfl rfl hb)⟩
        exact ((Kw.ofBelow (S := Foot L s) HB1.out).setCell (p := ⟨L.d, _, none⟩) (.inl rfl) _).setCell (p := ⟨L.d, _, none⟩) (.inl rfl) _
      · by_cases hf0 : 0 < s.fuse
        · obtain ⟨k, hk⟩ : ∃ k, s.fuse = k + 2 := ⟨s.fuse - 2, by omega⟩
          have HKK := Lib.hid hk
          have g1 : (0 : Int) < (s.fuse : Int) := by omega
          have g2 : ¬ (s.fuse : Int) = 1 := by omega
          have g3 : (s.fuse : Int) - 1 < 9223372036854775808 := by omega
          have g4 : -9223372036854775808 ≤ (s.fuse : Int) - 1 := by omega
          have HT : Hid (DAt ((w1.setCell ⟨L.d, 2, none⟩ (.int .i64 ((s.fuse : Int) - 1))).setCell ⟨L.d, 1, none⟩ (.int .i64 ((s.steps : Int) + 1))) L s.tick) := Lib.hid (by
            refine H1.out.set2 _ _ _ _ s.tick ?_ rfl rfl rfl rfl
            have e1 : ((s.fuse - 1 : Nat) : Int) = (s.fuse : Int) - 1 := by omega
            unfold DS.tick dcells
            dsimp only
            rw [e1]
            simp [List.setIfInBounds_toArray])
          have HKT : Hid (Kw (fun b => b = L.d) w1 ((w1.setCell ⟨L.d, 2, none⟩ (.int .i64 ((s.fuse : Int) - 1))).setCell ⟨L.d, 1, none⟩ (.int .i64 ((s.steps : Int) + 1)))) := Lib.hid (((Kw.refl (fun b => b = L.d) w1).setCell (p := ⟨L.d, 2, none⟩) rfl _).setCell (p := ⟨L.d, 1, none⟩) rfl _)
          clear hk
          go_wp2_with (fail)
          refine (HDO.out w1 _ HB1.out HKT.out HT.out HDN.out (by first | rfl | trivial)).mono ?_
          rintro r w3 hq
          obtain rfl := hq.1
          have HQ := Lib.hid hq
          clear hq
          go_wp2_with (fail)
          go_ret
          unfold DS.step
          rw [HDN.out, if_neg (by decide), if_neg (by decide), if_neg hf1]
          exact OpR.did H.out (s1 := s.tick) rfl rfl rfl HB1.out HKT.out HQ.out rfl
        · have hz : s.fuse = 0 := by omega
          rw [hz] at a2
          have a2 : w1.cell? ⟨L.d, 2, none⟩ = some (.int .i64 0) := a2
          have HT : Hid (DAt (w1.setCell ⟨L.d, 1, none⟩ (.int .i64 ((s.steps : Int) + 1))) L s.tick) := Lib.hid (by
            refine H1.out.set1 _ _ s.tick ?_ rfl rfl rfl rfl
            unfold DS.tick dcells
            dsimp only
            rw [hz]
            simp [List.setIfInBounds_toArray])
          have HKT : Hid (Kw (fun b => b = L.d) w1 (w1.setCell ⟨L.d, 1, none⟩ (.int .i64 ((s.steps : Int) + 1)))) := Lib.hid ((Kw.refl (fun b => b = L.d) w1).setCell (p := ⟨L.d, 1, none⟩) rfl _)
          have HZ := Lib.hid hz
          clear hz
          go_wp2_with (fail)
          refine (HDO.out w1 _ HB1.out HKT.out HT.out HDN.out (by first | rfl | trivial)).mono ?_
          rintro r w3 hq
          obtain rfl := hq.1
          have HQ := Lib.hid hq
          clear hq
          go_wp2_with (fail)
          go_ret
          unfold DS.step
          rw [HDN.out, if_neg (by decide), if_neg (by decide), if_neg hf1]
          exact OpR.did H.out (s1 := s.tick) rfl rfl rfl HB1.out HKT.out HQ.out rfl
    · go_wp2_with (fail)
      go_ret
      unfold DS.step
      rw [HDN.out, if_neg (by decide), if_pos he]
      exact OpR.same H.out HB1.out rfl
set_option maxRecDepth 100000 in
set_option maxHeartbeats 4000000 in
theorem step_syncdir (L : Lay) (s : DS) (q0 : Nat) (e : Int) (f : DS → DS) (w : World) (h : DAt w L s) (hst : s.steps ≤ 1000000) (hfu : s.fuse < 9223372036854775808)
    (HAg : ∀ w', Below w.heap.size w w' → s.down = false → Calls Try.prog 37 #[] w' fun r w'' => r = .returned (.int .i64 e) ∧ Below w'.heap.size w' w'')
    (HDo : ∀ w1 w2, Below w.heap.size w w1 → Kw (fun b => b = L.d) w1 w2 → DAt w2 L s.tick → s.down = false → e = 0 → Calls Try.prog 38 #[ptrV q0] w2 (DoR w2 L s.tick (f s.tick))) :
    Calls Try.prog 27 #[dP L, .func (.func 37) #[] #[], .func (.func 38) #[] #[ptrV q0]] w (OpR w L s (s.step e f)) := by
  have HR := Lib.hid (fun w' (hb : Below w.heap.size w w') => ready_any L s w' (h.below hb))
  have H := Lib.hid h
  have HAG := Lib.hid HAg
  have HDO := Lib.hid HDo
  have hl := h.lt
  clear h HAg HDo
  unfold dP ptrV at *
  go_enter Try.func27, Try.ntmps27
  go_wp2_with (fail)
  refine (HR.out w (Below.refl _ _)).mono ?_
  rintro r w' ⟨rfl, rfl⟩
  cases hdn : s.down with
  | true =>
    have HDN := Lib.hid hdn
    clear hdn
    rw [if_pos rfl]
    go_wp2_with (fail)
    go_ret
    unfold DS.step
    rw [if_pos HDN.out]
    exact OpR.same H.out (Below.refl _ _) rfl
  | false =>
    have HDN := Lib.hid hdn
    clear hdn
    rw [if_neg (by decide)]
    go_wp2_with (fail)
    refine (HAG.out w (Below.refl _ _) HDN.out).mono ?_
    rintro r w1 ⟨rfl, hb1⟩
    have HB1 := Lib.hid hb1
    have H1 := Lib.hid (H.out.below hb1)
    have hl1 := Nat.lt_of_lt_of_le hl hb1.size
    clear hb1
    by_cases he : e = 0
    · subst he
      obtain ⟨a0, a1, a2, a3, a4, a5, a6⟩ := H1.out.c
      have f1 := H1.out.fz 1
      have f2 := H1.out.fz 2
      have f3 := H1.out.fz 3
      by_cases hf1 : s.fuse = 1
      · rw [hf1] at a2
        have a2 : w1.cell? ⟨L.d, 2, none⟩ = some (.int .i64 1) := a2
        go_wp2_with (fail)
        go_ret
        unfold DS.step
        rw [HDN.out, if_neg (by decide), if_neg (by decide), if_pos hf1]
        refine ⟨rfl, L, rfl, H1.out.set2 _ _ _ _ s.gone rfl rfl rfl rfl rfl, ?_, fun b hb => .inl (foot_eq (s := s) rfl rfl rfl hb)⟩
        exact ((Kw.ofBelow (S := Foot L s) HB1.out).setCell (p := ⟨L.d, _, none⟩) (.inl rfl) _).setCell (p := ⟨L.d, _, none⟩) (.inl rfl) _
      · by_cases hf0 : 0 < s.fuse
        · obtain ⟨k, hk⟩ : ∃ k, s.fuse = k + 2 := ⟨s.fuse - 2, by omega⟩
          have HKK := Lib.hid hk
          have g1 : (0 : Int) < (s.fuse : Int) := by omega
          have g2 : ¬ (s.fuse : Int) = 1 := by omega
          have g3 : (s.fuse : Int) - 1 < 9223372036854775808 := by omega
          have g4 : -9223372036854775808 ≤ (s.fuse : Int) - 1 := by omega
          have HT : Hid (DAt ((w1.setCell ⟨L.d, 2, none⟩ (.int .i64 ((s.fuse : Int) - 1))).setCell ⟨L.d, 1, none⟩ (.int .i64 ((s.steps : Int) + 1))) L s.tick) := Lib.hid (by
            refine H1.out.set2 _ _ _ _ s.tick ?_ rfl rfl rfl rfl
            have e1 : ((s.fuse - 1 : Nat) : Int) = (s.fuse : Int) - 1 := by omega
            unfold DS.tick dcells
            dsimp only
            rw [e1]
            simp [List.setIfInBounds_toArray])
          have HKT : Hid (Kw (fun b => b = L.d) w1 ((w1.setCell ⟨L.d, 2, none⟩ (.int .i64 ((s.fuse : Int) - 1))).setCell ⟨L.d, 1, none⟩ (.int .i64 ((s.steps : Int) + 1)))) := Lib.hid (((Kw.refl (fun b => b = L.d) w1).setCell (p := ⟨L.d, 2, none⟩) rfl _).setCell (p := ⟨L.d, 1, none⟩) rfl _)
          clear hk
          go_wp2_with (fail)
          refine (HDO.out w1 _ HB1.out HKT.out HT.out HDN.out (by first | rfl | trivial)).mono ?_
          rintro r w3 hq
          obtain rfl := hq.1
          have HQ := Lib.hid hq
          clear hq
          go_wp2_with (fail)
          go_ret
          unfold DS.step
          rw [HDN.out, if_neg (by decide), if_neg (by decide), if_neg hf1]
          exact OpR.did H.out (s1 := s.tick) rfl rfl rfl HB1.out HKT.out HQ.out rfl
        · have hz : s.fuse = 0 := by omega
          rw [hz] at a2
          have a2 : w1.cell? ⟨L.d, 2, none⟩ = some (.int .i64 0) := a2
          have HT : Hid (DAt (w1.setCell ⟨L.d, 1, none⟩ (.int .i64 ((s.steps : Int) + 1))) L s.tick) := Lib.hid (by
            refine H1.out.set1 _ _ s.tick ?_ rfl rfl rfl rfl
            unfold DS.tick dcells
            dsimp only
            rw [hz]
            simp [List.setIfInBounds_toArray])
          have HKT : Hid (Kw (fun b => b = L.d) w1 (w1.setCell ⟨L.d, 1, none⟩ (.int .i64 ((s.steps : Int) + 1)))) := Lib.hid ((Kw.refl (fun b => b = L.d) w1).setCell (p := ⟨L.d, 1, none⟩) rfl _)
          have HZ := Lib.hid hz
          clear hz
          go_wp2_with (fail)
          refine (HDO.out w1 _ HB1.out HKT.out HT.out HDN.out (by first | rfl | trivial)).mono ?_
          rintro r w3 hq
          obtain rfl := hq.1
          have HQ := Lib.hid hq
          clear hq
          go_wp2_with (fail)
          go_ret
          unfold DS.step
          rw [HDN.out, if_neg (by decide), if_neg (by decide), if_neg hf1]
          exact OpR.did H.out (s1 := s.tick) rfl rfl rfl HB1.out HKT.out HQ.out rfl
    · go_wp2_with (fail)
      go_ret
      unfold DS.step
      rw [HDN.out, if_neg (by decide), if_pos he]
      exact OpR.same H.out HB1.out rfl
set_option maxRecDepth 100000 in
set_option maxHeartbeats 4000000 in
theorem step_rename (L : Lay) (s : DS) (p0 p1 p2 q0 q1 q2 : Nat) (e : Int) (f : DS → DS) (w : World) (h : DAt w L s) (hst : s.steps ≤ 1000000) (hfu : s.fuse < 9223372036854775808)
    (HAg : ∀ w', Below w.heap.size w w' → s.down = false → Calls Try.prog 40 #[ptrV p0, ptrV p1, ptrV p2] w' fun r w'' => r = .returned (.int .i64 e) ∧ Below w'.heap.size w' w'')
    (HDo : ∀ w1 w2, Below w.heap.size w w1 → Kw (fun b => b = L.d) w1 w2 → DAt w2 L s.tick → s.down = false → e = 0 → Calls Try.prog 41 #[ptrV q0, ptrV q1, ptrV q2] w2 (DoR w2 L s.tick (f s.tick))) :
    Calls Try.prog 27 #[dP L, .func (.func 40) #[] #[ptrV p0, ptrV p1, ptrV p2], .func (.func 41) #[] #[ptrV q0, ptrV q1, ptrV q2]] w (OpR w L s (s.step e f)) := by
  have HR := Lib.hid (fun w' (hb : Below w.heap.size w w') => ready_any L s w' (h.below hb))
  have H := Lib.hid h
  have HAG := Lib.hid HAg
  have HDO := Lib.hid HDo
  have hl := h.lt
  clear h HAg HDo
  unfold dP ptrV at *
  go_enter Try.func27, Try.ntmps27
  go_wp2_with (fail)
  refine (HR.out w (Below.refl _ _)).mono ?_
  rintro r w' ⟨rfl, rfl⟩
  cases hdn : s.down with
  | true =>
    have HDN := Lib.hid hdn
    clear hdn
    rw [if_pos rfl]
    go_wp2_with (fail)
    go_ret
    unfold DS.step
    rw [if_pos HDN.out]
    exact OpR.same H.out (Below.refl _ _) rfl
  | false =>
    have HDN := Lib.hid hdn
    clear hdn
    rw [if_neg (by decide)]
    go_wp2_with (fail)
    refine (HAG.out w (Below.refl _ _) HDN.out).mono ?_
    rintro r w1 ⟨rfl, hb1⟩
    have HB1 := Lib.hid hb1
    have H1 := Lib.hid (H.out.below hb1)
    have hl1 := Nat.lt_of_lt_of_le hl hb1.size
    clear hb1
    by_cases he : e = 0
    · subst he
      obtain ⟨a0, a1, a2, a3, a4, a5, a6⟩ := H1.out.c
      have f1 := H1.out.fz 1
      have f2 := H1.out.fz 2
      have f3 := H1.out.fz 3
      by_cases hf1 : s.fuse = 1
      · rw [hf1] at a2
        have a2 : w1.cell? ⟨L.d, 2, none⟩ = some (.int .i64 1) := a2
        go_wp2_with (fail)
        go_ret
        unfold DS.step
        rw [HDN.out, if_neg (by decide), if_neg (by decide), if_pos hf1]
        refine ⟨rfl, L, rfl, H1.out.set2 _ _ _ _ s.gone rfl rfl rfl rfl rfl, ?_, fun b hb => .inl (foot_eq (s := s) rfl rfl rfl hb)⟩
        exact ((Kw.ofBelow (S := Foot L s) HB1.out).setCell (p := ⟨L.d, _, none⟩) (.inl rfl) _).setCell (p := ⟨L.d, _, none⟩) (.inl rfl) _
      · by_cases hf0 : 0 < s.fuse
        · obtain ⟨k, hk⟩ : ∃ k, s.fuse = k + 2 := ⟨s.fuse - 2, by omega⟩
          have HKK := Lib.hid hk
          have g1 : (0 : Int) < (s.fuse : Int) := by omega
          have g2 : ¬ (s.fuse : Int) = 1 := by omega
          have g3 : (s.fuse : Int) - 1 < 9223372036854775808 := by omega
          have g4 : -9223372036854775808 ≤ (s.fuse : Int) - 1 := by omega
          have HT : Hid (DAt ((w1.setCell ⟨L.d, 2, none⟩ (.int .i64 ((s.fuse : Int) - 1))).setCell ⟨L.d, 1, none⟩ (.int .i64 ((s.steps : Int) + 1))) L s.tick) := Lib.hid (by
            refine H1.out.set2 _ _ _ _ s.tick ?_ rfl rfl rfl rfl
            have e1 : ((s.fuse - 1 : Nat) : Int) = (s.fuse : Int) - 1 := by omega
            unfold DS.tick dcells
            dsimp only
            rw [e1]
            simp [List.setIfInBounds_toArray])
          have HKT : Hid (Kw (fun b => b = L.d) w1 ((w1.setCell ⟨L.d, 2, none⟩ (.int .i64 ((s.fuse : Int) - 1))).setCell ⟨L.d, 1, none⟩ (.int .i64 ((s.steps : Int) + 1)))) := Lib.hid (((Kw.refl (fun b => b = L.d) w1).setCell (p := ⟨L.d, 2, none⟩) rfl _).setCell (p := ⟨L.d, 1, none⟩) rfl _)
          clear hk
          go_wp2_with (fail)
          refine (HDO.out w1 _ HB1.out HKT.out HT.out HDN.out (by first | rfl | trivial)).mono ?_
          rintro r w3 hq
          obtain rfl := hq.1
          have HQ := Lib.hid hq
          clear hq
          go_wp2_with (fail)
          go_ret
          unfold DS.step
          rw [HDN.out, if_neg (by decide), if_neg (by decide), if_neg hf1]
          exact OpR.did H.out (s1 := s.tick) rfl rfl rfl HB1.out HKT.out HQ.out rfl
        · have hz : s.fuse = 0 := by omega
          rw [hz] at a2
          have a2 : w1.cell? ⟨L.d, 2, none⟩ = some (.int .i64 0) := a2
          have HT : Hid (DAt (w1.setCell ⟨L.d, 1, none⟩ (.int .i64 ((s.steps : Int) + 1))) L s.tick) := Lib.hid (by
            refine H1.out.set1 _ _ s.tick ?_ rfl rfl rfl rfl
            unfold DS.tick dcells
            dsimp only
            rw [hz]
            simp [List.setIfInBounds_toArray])
          have HKT : Hid (Kw (fun b => b = L.d) w1 (w1.setCell ⟨L.d, 1, none⟩ (.int .i64 ((s.steps : Int) + 1)))) := Lib.hid ((Kw.refl (fun b => b = L.d) w1).setCell (p := ⟨L.d, 1, none⟩) rfl _)
          have HZ := Lib.hid hz
          clear hz
          go_wp2_with (fail)
          refine (HDO.out w1 _ HB1.out HKT.out HT.out HDN.out (by first | rfl | trivial)).mono ?_
          rintro r w3 hq
          obtain rfl := hq.1
          have HQ := Lib.hid hq
          clear hq
          go_wp2_with (fail)
          go_ret
          unfold DS.step
          rw [HDN.out, if_neg (by decide), if_neg (by decide), if_neg hf1]
          exact OpR.did H.out (s1 := s.tick) rfl rfl rfl HB1.out HKT.out HQ.out rfl
    · go_wp2_with (fail)
      go_ret
      unfold DS.step
      rw [HDN.out, if_neg (by decide), if_pos he]
      exact OpR.same H.out HB1.out rfl
set_option maxRecDepth 100000 in
set_option maxHeartbeats 4000000 in
theorem step_remove (L : Lay) (s : DS) (p0 p1 q0 q1 : Nat) (e : Int) (f : DS → DS) (w : World) (h : DAt w L s) (hst : s.steps ≤ 1000000) (hfu : s.fuse < 9223372036854775808)
    (HAg : ∀ w', Below w.heap.size w w' → s.down = false → Calls Try.prog 65 #[ptrV p0, ptrV p1] w' fun r w'' => r = .returned (.int .i64 e) ∧ Below w'.heap.size w' w'')
    (HDo : ∀ w1 w2, Below w.heap.size w w1 → Kw (fun b => b = L.d) w1 w2 → DAt w2 L s.tick → s.down = false → e = 0 → Calls Try.prog 71 #[ptrV q0, ptrV q1] w2 (DoR w2 L s.tick (f s.tick))) :
    Calls Try.prog 27 #[dP L, .func (.func 65) #[] #[ptrV p0, ptrV p1], .func (.func 71) #[] #[ptrV q0, ptrV q1]] w (OpR w L s (s.step e f)) := by
  have HR := Lib.hid (fun w' (hb : Below w.heap.size w w') => ready_any L s w' (h.below hb))
  have H := Lib.hid h
  have HAG := Lib.hid HAg
  have HDO := Lib.hid HDo
  have hl := h.lt
  clear h HAg HDo
  unfold dP ptrV at *
  go_enter Try.func27, Try.ntmps27
  go_wp2_with (fail)
  refine (HR.out w (Below.refl _ _)).mono ?_
  rintro r w' ⟨rfl, rfl⟩
  cases hdn : s.down with
  | true =>
    have HDN := Lib.hid hdn
    clear hdn
    rw [if_pos rfl]
    go_wp2_with (fail)
    go_ret
    unfold DS.step
    rw [if_pos HDN.out]
    exact OpR.same H.out (Below.refl _ _) rfl
  | false =>
    have HDN := Lib.hid hdn
    clear hdn
    rw [if_neg (by decide)]
    go_wp2_with (fail)
    refine (HAG.out w (Below.refl _ _) HDN.out).mono ?_
    rintro r w1 ⟨rfl, hb1⟩
    have HB1 := Lib.hid hb1
    have H1 := Lib.hid (H.out.below hb1)
    have hl1 := Nat.lt_of_lt_of_le hl hb1.size
    clear hb1
    by_cases he : e = 0
    · subst he
      obtain ⟨a0, a1, a2, a3, a4, a5, a6⟩ := H1.out.c
      have f1 := H1.out.fz 1
      have f2 := H1.out.fz 2
      have f3 := H1.out.fz 3
      by_cases hf1 : s.fuse = 1
      · rw [hf1] at a2
        have a2 : w1.cell? ⟨L.d, 2, none⟩ = some (.int .i64 1) := a2
        go_wp2_with (fail)
        go_ret
        unfold DS.step
        rw [HDN.out, if_neg (by decide), if_neg (by decide), if_pos hf1]
        refine ⟨rfl, L, rfl, H1.out.set2 _ _ _ _ s.gone rfl rfl rfl rfl rfl, ?_, fun b hb => .inl (foot_eq (s := s) rfl rfl rfl hb)⟩
        exact ((Kw.ofBelow (S := Foot L s) HB1.out).setCell (p := ⟨L.d, _, none⟩) (.inl rfl) _).setCell (p := ⟨L.d, _, none⟩) (.inl rfl) _
      · by_cases hf0 : 0 < s.fuse
        · obtain ⟨k, hk⟩ : ∃ k, s.fuse = k + 2 := ⟨s.fuse - 2, by omega⟩
          have HKK := Lib.hid hk
          have g1 : (0 : Int) < (s.fuse : Int) := by omega
          have g2 : ¬ (s.fuse : Int) = 1 := by omega
          have g3 : (s.fuse : Int) - 1 < 9223372036854775808 := by omega
          have g4 : -9223372036854775808 ≤ (s.fuse : Int) - 1 := by omega
          have HT : Hid (DAt ((w1.setCell ⟨L.d, 2, none⟩ (.int .i64 ((s.fuse : Int) - 1))).setCell ⟨L.d, 1, none⟩ (.int .i64 ((s.steps : Int) + 1))) L s.tick) := Lib.hid (by
            refine H1.out.set2 _ _ _ _ s.tick ?_ rfl rfl rfl rfl
            have e1 : ((s.fuse - 1 : Nat) : Int) = (s.fuse : Int) - 1 := by omega
            unfold DS.tick dcells
            dsimp only
            rw [e1]
            simp [List.setIfInBounds_toArray])
          have HKT : Hid (Kw (fun b => b = L.d) w1 ((w1.setCell ⟨L.d, 2, none⟩ (.int .i64 ((s.fuse : Int) - 1))).setCell ⟨L.d, 1, none⟩ (.int .i64 ((s.steps : Int) + 1)))) := Lib.hid (((Kw.refl (fun b => b = L.d) w1).setCell (p := ⟨L.d, 2, none⟩) rfl _).setCell (p := ⟨L.d, 1, none⟩) rfl _)
          clear hk
          go_wp2_with (fail)
          refine (HDO.out w1 _ HB1.out HKT.out HT.out HDN.out (by first | rfl | trivial)).mono ?_
          rintro r w3 hq
          obtain rfl := hq.1
          have HQ := Lib.hid hq
          clear hq
          go_wp2_with (fail)
          go_ret
          unfold DS.step
          rw [HDN.out, if_neg (by decide), if_neg (by decide), if_neg hf1]
          exact OpR.did H.out (s1 := s.tick) rfl rfl rfl HB1.out HKT.out HQ.out rfl
        · have hz : s.fuse = 0 := by omega
          rw [hz] at a2
          have a2 : w1.cell? ⟨L.d, 2, none⟩ = some (.int .i64 0) := a2
          have HT : Hid (DAt (w1.setCell ⟨L.d, 1, none⟩ (.int .i64 ((s.steps : Int) + 1))) L s.tick) := Lib.hid (by
            refine H1.out.set1 _ _ s.tick ?_ rfl rfl rfl rfl
            unfold DS.tick dcells
            dsimp only
            rw [hz]
            simp [List.setIfInBounds_toArray])
          have HKT : Hid (Kw (fun b => b = L.d) w1 (w1.setCell ⟨L.d, 1, none⟩ (.int .i64 ((s.steps : Int) + 1)))) := Lib.hid ((Kw.refl (fun b => b = L.d) w1).setCell (p := ⟨L.d, 1, none⟩) rfl _)
          have HZ := Lib.hid hz
          clear hz
          go_wp2_with (fail)
          refine (HDO.out w1 _ HB1.out HKT.out HT.out HDN.out (by first | rfl | trivial)).mono ?_
          rintro r w3 hq
          obtain rfl := hq.1
          have HQ := Lib.hid hq
          clear hq
          go_wp2_with (fail)
          go_ret
          unfold DS.step
          rw [HDN.out, if_neg (by decide), if_neg (by decide), if_neg hf1]
          exact OpR.did H.out (s1 := s.tick) rfl rfl rfl HB1.out HKT.out HQ.out rfl
    · go_wp2_with (fail)
      go_ret
      unfold DS.step
      rw [HDN.out, if_neg (by decide), if_pos he]
      exact OpR.same H.out HB1.out rfl
end Go.Proofs.Ytjgiohlkpenipaa
