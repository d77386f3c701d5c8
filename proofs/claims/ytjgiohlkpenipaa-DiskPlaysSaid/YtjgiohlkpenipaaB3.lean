/- Contracts of Create, Append, Sync, SyncDir, Rename, Remove. Conditions: as each theorem states them. -/
import Derived.Test.YtjgiohlkpenipaaB2
namespace Go.Proofs.Ytjgiohlkpenipaa
open Go.RowKit Go.Maps
set_option linter.unusedVariables false
set_option linter.unusedSimpArgs false

theorem OpR.from {w W w' : World} {L : Lay} {s : DS} {res : Int × DS} {r : Ending} (hb : Below w.heap.size w W) (h : OpR W L s res r w') : OpR w L s res r w' := by
  obtain ⟨h1, L', h2, h3, h4, h5⟩ := h
  refine ⟨h1, L', h2, h3, (Kw.ofBelow hb).trans h4, fun b hb' => ?_⟩
  have := hb.size
  rcases h5 b hb' with h | h
  · exact .inl h
  · exact .inr (by omega)
theorem OkS.tick {s : DS} (h : OkS s) (hs : s.steps < 1000000) : OkS s.tick := by
  have hst := h.st
  refine ⟨h.rm, by show s.steps + 1 ≤ 1000000; omega, by have := h.fu; show s.fuse - 1 < 9223372036854775808; omega, by have := h.dl; show s.dir.length ≤ s.steps + 1; omega, by have := h.kl; show s.kept.length + s.waits.length ≤ s.steps + 1; omega, fun i => ?_, h.su, h.nd, h.nk, h.nw⟩
  have := h.fs i
  show (s.file i).data.size ≤ 2000 * (s.steps + 1)
  omega
theorem ag_create {s : DS} {n : ByteArray} (h : agCreate s n = 0) : named n ∧ look s.dir n = none ∧ s.dir.length < 4096 := by
  unfold agCreate at h
  split at h
  · cases h
  · rename_i h1
    split at h
    · cases h
    · rename_i h2
      split at h
      · cases h
      · exact ⟨Classical.not_not.1 h1, Classical.not_not.1 h2, by omega⟩
theorem ag_append {s : DS} {n data : ByteArray} (h : agAppend s n data = 0) : ∃ i, look s.dir n = some i := by
  unfold agAppend at h
  split at h
  · cases h
  · rename_i h1
    exact Option.ne_none_iff_exists'.1 h1
theorem ag_there {s : DS} {n : ByteArray} (h : agThere s n = 0) : ∃ i, look s.dir n = some i := by
  unfold agThere at h
  split at h
  · cases h
  · rename_i h1
    exact Option.ne_none_iff_exists'.1 h1
theorem ag_rename {s : DS} {n to : ByteArray} (h : agRename s n to = 0) : named to ∧ ∃ i, look s.dir n = some i := by
  unfold agRename at h
  split at h
  · cases h
  · rename_i h1
    split at h
    · cases h
    · rename_i h2
      exact ⟨Classical.not_not.1 h2, Option.ne_none_iff_exists'.1 h1⟩
def DS.at_ (s : DS) (n : ByteArray) : Nat := (look s.dir n).getD 0
def DS.create (s : DS) (n : ByteArray) : Int × DS := s.step (agCreate s n) (fun t => t.grow.chg ⟨ByteArray.empty, n, t.files.length⟩)
def DS.append (s : DS) (n data : ByteArray) : Int × DS := s.step (agAppend s n data) (fun t => t.setF (s.at_ n) ⟨(t.file (s.at_ n)).data ++ data, (t.file (s.at_ n)).sure⟩)
def DS.fsync (s : DS) (n : ByteArray) : Int × DS := s.step (agThere s n) (fun t => t.setF (s.at_ n) ⟨(t.file (s.at_ n)).data, (t.file (s.at_ n)).data.size⟩)
def DS.dsync (s : DS) : Int × DS := s.step 0 DS.sync
def DS.rename (s : DS) (n to : ByteArray) : Int × DS := s.step (agRename s n to) (fun t => t.chg ⟨n, to, s.at_ n⟩)
def DS.remove (s : DS) (n : ByteArray) : Int × DS := s.step (agThere s n) (fun t => t.chg ⟨n, ByteArray.empty, 0⟩)
theorem off_foot {w W : World} {L : Lay} {s : DS} (h : DAt w L s) {b : Nat} (hb : w.heap.size ≤ b) : ¬ Foot L s b := fun hf => by
  have := h.foot_lt hf
  omega
set_option maxRecDepth 100000 in
set_option maxHeartbeats 2000000 in
theorem create_any (L : Lay) (s : DS) (n : ByteArray) (w : World) (h : DAt w L s) (ok : OkS s) (hs : s.steps < 1000000) (hn : okN n) :
    Calls Try.prog 11 #[dP L, .string n] w (OpR w L s (s.create n)) := by
  have hlt := h.lt
  have hb0 : Below w.heap.size w ((w.alloc (Obj.cells #[dP L] 24)).alloc (Obj.cells #[.string n] 9)) := bl_alloc (bl_alloc (Below.refl _ _) _) _
  have x0 : Box ((w.alloc (Obj.cells #[dP L] 24)).alloc (Obj.cells #[.string n] 9)) (w.heap.size) (dP L) 24 := by simpa using (Box.new w (dP L) 24).below (bl_alloc (Below.refl _ _) _)
  have x1 : Box ((w.alloc (Obj.cells #[dP L] 24)).alloc (Obj.cells #[.string n] 9)) (w.heap.size + 1) (.string n) 9 := by simpa using Box.new (w.alloc (Obj.cells #[dP L] 24)) (.string n) 9
  have hd := h.below hb0
  have H := Lib.hid h
  have hst : Hid (∀ W, Below w.heap.size w W → DAt W L s → Box W (w.heap.size) (dP L) 24 → Box W (w.heap.size + 1) (.string n) 9 → Calls Try.prog 27 #[dP L, .func (.func 28) #[] #[ptrV (w.heap.size + 1), ptrV (w.heap.size)], .func (.func 30) #[] #[ptrV (w.heap.size), ptrV (w.heap.size + 1)]] W (OpR w L s (s.create n))) := Lib.hid (fun W hb0 hd x0 x1 => by
    have h1 := ok.fu
    refine (step_create L s (w.heap.size + 1) (w.heap.size) (w.heap.size) (w.heap.size + 1) _ _ W hd (by omega) h1 (fun w' hb' hdn => create_in L s n _ _ w' (hd.below hb') hn (x0.below hb') (x1.below hb')) (fun w1 w2 hb1 hk2 hd2 hdn he => create_do L s.tick n _ _ w2 hd2 (ok.tick hs) (ag_create he).1 ((x0.below hb1).kw hk2 (by omega)) ((x1.below hb1).kw hk2 (by omega)))).mono (fun r w' hr => hr.from hb0))
  have HS := Lib.hid (hst.out _ hb0 hd x0 x1)
  clear h hd hst ok x0 x1
  unfold dP ptrV at *
  go_enter Try.func11, Try.ntmps11
  go_wp2_with (fail)
  refine HS.out.mono ?_
  rintro r w' hr
  obtain rfl := hr.1
  have HR := Lib.hid hr
  clear hr
  go_wp2_with (fail)
  go_ret
  exact HR.out
set_option maxRecDepth 100000 in
set_option maxHeartbeats 2000000 in
theorem append_any (L : Lay) (s : DS) (n : ByteArray) (data : ByteArray) (w : World) (h : DAt w L s) (ok : OkS s) (hs : s.steps < 1000000) (hn : okN n) (hds : data.size ≤ 2000) :
    Calls Try.prog 12 #[dP L, .string n, .string data] w (OpR w L s (s.append n data)) := by
  have hlt := h.lt
  have hb0 : Below w.heap.size w (((w.alloc (Obj.cells #[dP L] 24)).alloc (Obj.cells #[.string n] 9)).alloc (Obj.cells #[.string data] 9)) := bl_alloc (bl_alloc (bl_alloc (Below.refl _ _) _) _) _
  have x0 : Box (((w.alloc (Obj.cells #[dP L] 24)).alloc (Obj.cells #[.string n] 9)).alloc (Obj.cells #[.string data] 9)) (w.heap.size) (dP L) 24 := by simpa using ((Box.new w (dP L) 24).below (bl_alloc (Below.refl _ _) _)).below (bl_alloc (Below.refl _ _) _)
  have x1 : Box (((w.alloc (Obj.cells #[dP L] 24)).alloc (Obj.cells #[.string n] 9)).alloc (Obj.cells #[.string data] 9)) (w.heap.size + 1) (.string n) 9 := by simpa using (Box.new (w.alloc (Obj.cells #[dP L] 24)) (.string n) 9).below (bl_alloc (Below.refl _ _) _)
  have x2 : Box (((w.alloc (Obj.cells #[dP L] 24)).alloc (Obj.cells #[.string n] 9)).alloc (Obj.cells #[.string data] 9)) (w.heap.size + 2) (.string data) 9 := by simpa using Box.new ((w.alloc (Obj.cells #[dP L] 24)).alloc (Obj.cells #[.string n] 9)) (.string data) 9
  have hd := h.below hb0
  have H := Lib.hid h
  have hst : Hid (∀ W, Below w.heap.size w W → DAt W L s → Box W (w.heap.size) (dP L) 24 → Box W (w.heap.size + 1) (.string n) 9 → Box W (w.heap.size + 2) (.string data) 9 → Calls Try.prog 27 #[dP L, .func (.func 32) #[] #[ptrV (w.heap.size), ptrV (w.heap.size + 1), ptrV (w.heap.size + 2)], .func (.func 34) #[] #[ptrV (w.heap.size), ptrV (w.heap.size + 1), ptrV (w.heap.size + 2)]] W (OpR w L s (s.append n data))) := Lib.hid (fun W hb0 hd x0 x1 x2 => by
    have h1 := ok.fu
    refine (step_append L s (w.heap.size) (w.heap.size + 1) (w.heap.size + 2) (w.heap.size) (w.heap.size + 1) (w.heap.size + 2) _ _ W hd (by omega) h1 (fun w' hb' hdn => append_in L s n data _ _ _ w' (hd.below hb') ok hn (x0.below hb') (x1.below hb') (x2.below hb')) (fun w1 w2 hb1 hk2 hd2 hdn he => by
      obtain ⟨i, hi⟩ := ag_append he
      have e : s.at_ n = i := by unfold DS.at_; rw [hi]; rfl
      rw [e]
      exact append_do L s.tick n data _ _ _ i w2 hd2 (ok.tick hs) hn hds hi ((x0.below hb1).kw hk2 (by omega)) ((x1.below hb1).kw hk2 (by omega)) ((x2.below hb1).kw hk2 (by omega)))).mono (fun r w' hr => hr.from hb0))
  have HS := Lib.hid (hst.out _ hb0 hd x0 x1 x2)
  clear h hd hst ok x0 x1 x2
  unfold dP ptrV at *
  go_enter Try.func12, Try.ntmps12
  go_wp2_with (fail)
  refine HS.out.mono ?_
  rintro r w' hr
  obtain rfl := hr.1
  have HR := Lib.hid hr
  clear hr
  go_wp2_with (fail)
  go_ret
  exact HR.out
set_option maxRecDepth 100000 in
set_option maxHeartbeats 2000000 in
theorem rename_any (L : Lay) (s : DS) (n : ByteArray) (to : ByteArray) (w : World) (h : DAt w L s) (ok : OkS s) (hs : s.steps < 1000000) (hn : okN n) :
    Calls Try.prog 15 #[dP L, .string n, .string to] w (OpR w L s (s.rename n to)) := by
  have hlt := h.lt
  have hb0 : Below w.heap.size w (((w.alloc (Obj.cells #[dP L] 24)).alloc (Obj.cells #[.string n] 9)).alloc (Obj.cells #[.string to] 9)) := bl_alloc (bl_alloc (bl_alloc (Below.refl _ _) _) _) _
  have x0 : Box (((w.alloc (Obj.cells #[dP L] 24)).alloc (Obj.cells #[.string n] 9)).alloc (Obj.cells #[.string to] 9)) (w.heap.size) (dP L) 24 := by simpa using ((Box.new w (dP L) 24).below (bl_alloc (Below.refl _ _) _)).below (bl_alloc (Below.refl _ _) _)
  have x1 : Box (((w.alloc (Obj.cells #[dP L] 24)).alloc (Obj.cells #[.string n] 9)).alloc (Obj.cells #[.string to] 9)) (w.heap.size + 1) (.string n) 9 := by simpa using (Box.new (w.alloc (Obj.cells #[dP L] 24)) (.string n) 9).below (bl_alloc (Below.refl _ _) _)
  have x2 : Box (((w.alloc (Obj.cells #[dP L] 24)).alloc (Obj.cells #[.string n] 9)).alloc (Obj.cells #[.string to] 9)) (w.heap.size + 2) (.string to) 9 := by simpa using Box.new ((w.alloc (Obj.cells #[dP L] 24)).alloc (Obj.cells #[.string n] 9)) (.string to) 9
  have hd := h.below hb0
  have H := Lib.hid h
  have hst : Hid (∀ W, Below w.heap.size w W → DAt W L s → Box W (w.heap.size) (dP L) 24 → Box W (w.heap.size + 1) (.string n) 9 → Box W (w.heap.size + 2) (.string to) 9 → Calls Try.prog 27 #[dP L, .func (.func 40) #[] #[ptrV (w.heap.size), ptrV (w.heap.size + 1), ptrV (w.heap.size + 2)], .func (.func 41) #[] #[ptrV (w.heap.size), ptrV (w.heap.size + 1), ptrV (w.heap.size + 2)]] W (OpR w L s (s.rename n to))) := Lib.hid (fun W hb0 hd x0 x1 x2 => by
    have h1 := ok.fu
    refine (step_rename L s (w.heap.size) (w.heap.size + 1) (w.heap.size + 2) (w.heap.size) (w.heap.size + 1) (w.heap.size + 2) _ _ W hd (by omega) h1 (fun w' hb' hdn => rename_in L s n to _ _ _ w' (hd.below hb') hn (x0.below hb') (x1.below hb') (x2.below hb')) (fun w1 w2 hb1 hk2 hd2 hdn he => by
      obtain ⟨ht, i, hi⟩ := ag_rename he
      have e : s.at_ n = i := by unfold DS.at_; rw [hi]; rfl
      rw [e]
      exact rename_do L s.tick n to _ _ _ i w2 hd2 (ok.tick hs) hn ht hi ((x0.below hb1).kw hk2 (by omega)) ((x1.below hb1).kw hk2 (by omega)) ((x2.below hb1).kw hk2 (by omega)))).mono (fun r w' hr => hr.from hb0))
  have HS := Lib.hid (hst.out _ hb0 hd x0 x1 x2)
  clear h hd hst ok x0 x1 x2
  unfold dP ptrV at *
  go_enter Try.func15, Try.ntmps15
  go_wp2_with (fail)
  refine HS.out.mono ?_
  rintro r w' hr
  obtain rfl := hr.1
  have HR := Lib.hid hr
  clear hr
  go_wp2_with (fail)
  go_ret
  exact HR.out
set_option maxRecDepth 100000 in
set_option maxHeartbeats 2000000 in
theorem syncdir_any (L : Lay) (s : DS) (w : World) (h : DAt w L s) (ok : OkS s) (hs : s.steps < 1000000) :
    Calls Try.prog 14 #[dP L] w (OpR w L s (s.dsync)) := by
  have hlt := h.lt
  have hb0 : Below w.heap.size w (w.alloc (Obj.cells #[dP L] 24)) := bl_alloc (Below.refl _ _) _
  have x0 : Box (w.alloc (Obj.cells #[dP L] 24)) (w.heap.size) (dP L) 24 := by simpa using Box.new w (dP L) 24
  have hd := h.below hb0
  have H := Lib.hid h
  have hst : Hid (∀ W, Below w.heap.size w W → DAt W L s → Box W (w.heap.size) (dP L) 24 → Calls Try.prog 27 #[dP L, .func (.func 37) #[] #[], .func (.func 38) #[] #[ptrV (w.heap.size)]] W (OpR w L s (s.dsync))) := Lib.hid (fun W hb0 hd x0 => by
    have h1 := ok.fu
    refine (step_syncdir L s (w.heap.size) _ _ W hd (by omega) h1 (fun w' hb' hdn => sync_in w') (fun w1 w2 hb1 hk2 hd2 hdn he => syncdir_do L s.tick _ w2 hd2 ((x0.below hb1).kw hk2 (by omega)) (by omega))).mono (fun r w' hr => hr.from hb0))
  have HS := Lib.hid (hst.out _ hb0 hd x0)
  clear h hd hst ok x0
  unfold dP ptrV at *
  go_enter Try.func14, Try.ntmps14
  go_wp2_with (fail)
  refine HS.out.mono ?_
  rintro r w' hr
  obtain rfl := hr.1
  have HR := Lib.hid hr
  clear hr
  go_wp2_with (fail)
  go_ret
  exact HR.out
end Go.Proofs.Ytjgiohlkpenipaa
